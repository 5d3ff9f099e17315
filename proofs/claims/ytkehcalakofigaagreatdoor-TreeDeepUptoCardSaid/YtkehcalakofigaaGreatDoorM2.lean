/- The abstract machine and its walks (a verified interpreter of the model's code: plain definitions and lemmas, no condition). Printed by a program from longer texts: names made short. -/
import Derived.Test.YtkehcalakofigaaGreatDoorM1
import Derived.LaidEqlPtr
import Derived.RangeFuncLeaves
import Derived.RecoverIn
import Derived.OrdersIn
set_option linter.unusedSectionVars false
set_option linter.unusedSimpArgs false
set_option linter.unusedVariables false
namespace Go.Proofs.YtkehcalakofigaaGreatDoor.aY
variable [Lay]
open Go Go.RowKit
section
variable {P:Program}
theorem LZ {α β:Type} (g:α→Sem β) (k:α→β) (w:World):∀(l:List α),(∀x ∈ l,(g x).run P w=.ok (k x) w)→(l.mapM g).run P w=.ok (l.map k) w
 | [],_=>by simp
 | x::l,h=>by
   rw [List.mapM_cons,Sem.run_bind,h x (by simp)]
   simp only [Result.andThen_ok,Sem.run_bind,LZ g k w l (fun y a1=>h y (by simp [a1])),Sem.run_pure,List.map]
theorem Ov {E:Env} {t:TypeId} {a':List (Nat × V)} {hH:List (Nat × Value)} {v:V} (ag:nO E a' hH) (he:(xD P t).run a'=some v) (w:World):
 ∃Z,(Instr.build t hH.toArray).run P w=.ok Z w∧Rel E v Z:=by
 unfold xD at he
 cases aB:aX P t with
 | none=>rw [aB] at he;cases he
 | some aL=>
   rw [aB] at he
   simp only at he
   cases bn:aL.zero with
   | none=>rw [bn] at he;cases he
   | some z=>
     rw [bn] at he
     simp only at he
     obtain ⟨x,ao,nk,ki⟩:=ub (P:=P) aB bn E w
     have hu:=ez aB w
     have Jy:aZ E z.cells x.cells.toList:=by
      rw [ki]
      have:∀y:Value,aZ E (fI y).cells y.cells.toList:=by
       intro y
       cases y with
       | agg cs=>simp only [fI,V.cells,Value.cells];exact wi E _
       | pointer a=>cases a<;>simp [fI,hk,V.cells,Value.cells,aZ,Rel]
       | slice a n c=>
         have:=pZ E (.slice a n c)
         cases a with
         | some a=>simp [fI,hk,V.cells,Value.cells,aZ,Rel]
         | none=>
           simp only [fI,hk] at this ⊢
           cases af:(Nat.beq n 0&&Nat.beq c 0) with
           | false=>simp [V.cells,Value.cells,aZ,Rel]
           | true=>rw [af] at this;simpa [V.cells,Value.cells,aZ] using this
       | map r=>cases r<;>simp [fI,hk,V.cells,Value.cells,aZ,Rel]
       | tuple cs=>
         have:=pZ E (.tuple cs)
         simp only [fI,V.cells,Value.cells,aZ] at this ⊢
         exact ⟨_,_,rfl,this,rfl⟩
       | _=>simp [fI,hk,V.cells,Value.cells,aZ,Rel]
      exact this x
     cases bC:aL.a_ with
     | struct bP=>
       rw [bC] at he hu
       simp only at he
       cases az:x6 P bP.toList with
       | false=>rw [az] at he;cases he
       | true=>
         rw [az] at he
         simp only [cond_true] at he
         cases ax:j9 (sN P bP) z.cells a' with
         | none=>rw [ax] at he;cases he
         | some cs=>
           rw [ax] at he
           simp only [Option.some.injEq] at he
           subst he
           let k:Field→Nat × Nat:=fun f=>(f.offset,((aX P f.type).map (·.size)).getD 0)
           have mj:(bP.mapM fun f=>do pure (f.offset,←sizeOf f.type):Sem (Array (Nat × Nat))).run P w=.ok (bP.map k) w:=by
            rw [Array.mapM_eq_mapM_toList,Sem.run_map,LZ _ k w bP.toList]
            · simp only [Result.andThen_ok]
              congr 1
              apply Array.ext'
              simp
            · intro f hd
              have:=List.all_eq_true.1 az f hd
              cases tm:aX P f.type with
              | none=>rw [tm] at this;simp at this
              | some h5=>simp only [Sem.run_bind,hW tm,Result.andThen_ok,Sem.run_pure,k,tm];rfl
           have UW:(fun i=>(bP.map k)[i]?)=sN P bP:=by
            funext i
            simp only [sN,Array.getElem?_map]
            cases aC:bP[i]? with
            | none=>rfl
            | some f=>
              have s_:f ∈ bP.toList:=by
               have:=List.mem_of_getElem? (l:=bP.toList) (i:=i) (a:=f) (by simpa using aC)
               exact this
              have:=List.all_eq_true.1 az f s_
              cases tm:aX P f.type with
              | none=>rw [tm] at this;simp at this
              | some h5=>simp [k,tm]
           obtain ⟨b,hc,kJ⟩:=u7 (a:=x.cells) ag Jy ax
           refine ⟨.agg b,?_,by simp only [Rel];exact ⟨b,rfl,kJ⟩⟩
           simp only [Instr.build,Sem.run_bind,ao,hu,Result.andThen_ok,mj]
           rw [UW]
           simp only [hc,Sem.run_pure]
     | array n e=>
       rw [bC] at he hu
       simp only at he
       cases b5:aX P e with
       | none=>rw [b5] at he;cases he
       | some bb=>
         rw [b5] at he
         simp only at he
         cases ax:j9 (fun i=>some (i * bb.size,bb.size)) z.cells a' with
         | none=>rw [ax] at he;cases he
         | some cs=>
           rw [ax] at he
           simp only [Option.some.injEq] at he
           subst he
           obtain ⟨b,hc,kJ⟩:=u7 (a:=x.cells) ag Jy ax
           refine ⟨.agg b,?_,by simp only [Rel];exact ⟨b,rfl,kJ⟩⟩
           simp only [Instr.build,Sem.run_bind,ao,hu,Result.andThen_ok,hW b5,hc,Sem.run_pure]
     | _=>rw [bC] at he;cases he
theorem wJ {E:Env} {z:List V} {l:Array Value} (bn:aZ E z l.toList):∀n:Nat,aZ E (gM z n) ((Array.range (n * l.size)).map (l[· % l.size]!)).toList:=by
 have Va:(List.range l.size).map (l[· % l.size]!)=l.toList:=by
  apply List.ext_getElem?
  intro i
  simp only [List.getElem?_map]
  by_cases aC:i<l.size
  · rw [List.getElem?_range aC]
    simp only [Option.map,Nat.mod_eq_of_lt aC,Array.getElem?_toList]
    rw [getElem!_pos l i aC,Array.getElem?_eq_getElem aC]
  · rw [List.getElem?_eq_none (by simp;omega),Array.getElem?_toList,Array.getElem?_eq_none (by omega)]
    rfl
 intro n
 simp only [Array.toList_map,Array.toList_range]
 induction n with
 | zero=>simp [gM,aZ]
 | succ n bh=>
   have e:(n+1) * l.size=l.size+n * l.size:=by rw [Nat.add_mul];omega
   rw [e,List.range_add,List.map_append,Va,List.map_map]
   have aM:((l[· % l.size]!) ∘ fun x=>l.size+x)=(l[· % l.size]!):=by
    funext x
    simp
   rw [aM]
   exact bn.append bh
theorem qh {E:Env} {t:TypeId} {aL:kF} {z:V} (aB:aX P t=some aL) (bn:aL.zero=some z) (w:World):∃x:Value,(∀w,(zeroValue t).run P w=.ok x w)∧aZ E z.cells x.cells.toList∧x.cells.size=z.cells.length:=by
 obtain ⟨x,ao,_,ki⟩:=ub (P:=P) aB bn E w
 obtain ⟨i,U,_,_,_,_,fY⟩:=qf aB
 rw [bn] at fY
 have VF:∃y,i.zero=some y:=by cases aE:i.zero with | none=>rw [aE] at fY;cases fY | some y=>exact ⟨y,rfl⟩
 obtain ⟨y,a1⟩:=VF
 have cu:∀w,(zeroValue t).run P w=.ok y w:=fun w=>by simp only [zeroValue,Sem.run_bind,ua U,Result.andThen_ok,a1];rfl
 have Vz:y=x:=by have:=cu w;rw [ao] at this;simp at this;exact this.symm
 subst Vz
 refine ⟨_,cu,?_,?_⟩
 · rw [ki]
   have:∀y:Value,aZ E (fI y).cells y.cells.toList:=by
    intro y
    cases y with
    | agg cs=>simp only [fI,V.cells,Value.cells];exact wi E _
    | pointer a=>cases a<;>simp [fI,hk,V.cells,Value.cells,aZ,Rel]
    | slice a n c=>
      have:=pZ E (.slice a n c)
      cases a with
      | some a=>simp [fI,hk,V.cells,Value.cells,aZ,Rel]
      | none=>
        simp only [fI,hk] at this ⊢
        cases af:(Nat.beq n 0&&Nat.beq c 0) with
        | false=>simp [V.cells,Value.cells,aZ,Rel]
        | true=>rw [af] at this;simpa [V.cells,Value.cells,aZ] using this
    | map r=>cases r<;>simp [fI,hk,V.cells,Value.cells,aZ,Rel]
    | tuple cs=>
      have:=pZ E (.tuple cs)
      simp only [fI,V.cells,Value.cells,aZ] at this ⊢
      exact ⟨_,_,rfl,this,rfl⟩
    | _=>simp [fI,hk,V.cells,Value.cells,aZ,Rel]
   exact this _
 · rw [ki,Zj]
theorem Ox {au:Fr} {E:Env} {h aa:ae} {w:World} (s:aW au E h w) {t:TypeId} {n:Nat} {a':List (Nat × V)} {hH:List (Nat × Value)} {v:V} (ag:nO E a' hH) (he:(qG P t n).run a' h=.val v aa):
 cC au P E w (Instr.buildSlice t n hH.toArray) v aa:=by
 unfold qG at he
 cases aB:aX P t with
 | none=>rw [aB] at he;cases he
 | some aL=>
   rw [aB] at he
   simp only at he
   have hu:=ez aB
   cases bC:aL.a_ with
   | slice e=>
     rw [bC] at he hu
     simp only at he
     cases b5:aX P e with
     | none=>rw [b5] at he;cases he
     | some bb=>
       rw [b5] at he
       simp only at he
       cases bn:bb.zero with
       | none=>rw [bn] at he;cases he
       | some z=>
         rw [bn] at he
         simp only at he
         cases aq:(Nat.ble (n * bb.size) 1000000&&Nat.beq z.cells.length bb.size) with
         | false=>rw [aq] at he;cases he
         | true=>
           rw [aq] at he
           simp only [cond_true] at he
           simp only [Bool.and_eq_true,Nat.ble_eq,Nat.beq_eq] at aq
           cases ax:j9 (fun i=>some (i * bb.size,bb.size)) (gM z.cells n) a' with
           | none=>rw [ax] at he;cases he
           | some cs=>
             rw [ax] at he
             simp only at he
             cases a7:e4 h cs with
             | none=>rw [a7] at he;cases he
             | some U=>
               rw [a7] at he
               simp only [aT.val.injEq] at he
               obtain ⟨rfl,rfl⟩:=he
               obtain ⟨x,ao,nk,nm⟩:=qh (P:=P) (E:=E) b5 bn w
               have rv:x.cells.size=bb.size:=by rw [nm,aq.2]
               have rq:=wJ nk n
               rw [rv] at rq
               obtain ⟨b,hc,kJ⟩:=u7 (a:=(Array.range (n * bb.size)).map (x.cells[· % x.cells.size]!)) ag (by rw [rv];exact rq) ax
               obtain ⟨ar,g1,g2,g3,g4⟩:=zb (P:=P) s kJ a7 e
               refine ⟨.slice (some ⟨w.heap.size,0,none⟩) n n,_,ar,?_,g1,?_,g4⟩
               · have rh:¬16777216<n * bb.size:=by omega
                 have kd:(newRow e b).run P w=.ok ⟨w.heap.size,0,none⟩ {w with heap:=w.heap.push (.cells b e)}:=by simpa using g3
                 by_cases a6:n * bb.size=0
                 · have CN:Instr.fill (fun i=>some (i * bb.size,bb.size)) ((Array.range (n * bb.size)).map ((#[]:Array Value)[· % 0]!)) hH=some b:=by
                    have aF:(Array.range (n * bb.size)).map ((#[]:Array Value)[· % 0]!)=(Array.range (n * bb.size)).map (x.cells[· % x.cells.size]!):=by
                     rw [a6];simp
                    rw [aF];exact hc
                   have CO:Instr.fill (fun i=>some (i * bb.size,bb.size)) ((Array.range (n * bb.size)).map (fun x=>(#[]:Array Value)[x % (#[]:Array Value).size]!)) hH=some b:=CN
                   simp only [Instr.buildSlice,Sem.run_bind,hu,Result.andThen_ok,hW b5,Sem.run_ite]
                   rw [if_neg rh]
                   simp only [Sem.run_pure,Result.andThen_ok,if_pos a6]
                   rw [CO]
                   simp only [Sem.run_bind,kd,Result.andThen_ok,Sem.run_pure]
                 · simp only [Instr.buildSlice,Sem.run_bind,hu,Result.andThen_ok,hW b5,Sem.run_ite]
                   rw [if_neg rh]
                   simp only [Sem.run_pure,Result.andThen_ok,if_neg a6,ao]
                   rw [hc]
                   simp only [Sem.run_bind,kd,Result.andThen_ok,Sem.run_pure]
               · simp only [Rel]
                 exact ⟨_,g2,Nat.le_refl _,by simp⟩
   | _=>rw [bC] at he;cases he
theorem YI {au:Fr} {E:Env} {h aa:ae} {w:World} (s:aW au E h w) {t:TypeId} {x y v:V} {X Y:Value} (ao:Rel E x X) (a1:Rel E y Y) (he:(y_ P t).run x y h=.val v aa):
 cC au P E w (Instr.makeSlice t X Y) v aa:=by
 unfold y_ at he
 cases aB:aX P t with
 | none=>rw [aB] at he;cases he
 | some aL=>
   rw [aB] at he
   simp only at he
   have hu:=ez aB
   cases bC:aL.a_ with
   | slice e=>
     rw [bC] at he hu
     simp only at he
     cases b5:aX P e with
     | none=>rw [b5] at he;cases he
     | some bb=>
       rw [b5] at he
       simp only at he
       cases bn:bb.zero with
       | none=>rw [bn] at he;cases he
       | some z=>
         rw [bn] at he
         simp only at he
         cases CS:Nat.ble bb.bytes 4096 with
         | false=>rw [CS] at he;cases he
         | true=>
           rw [CS] at he
           simp only [cond_true,tC] at he
           obtain ⟨b6,l,rfl,yr⟩:=wm he
           obtain ⟨cz,c,rfl,dD⟩:=wm yr
           have:=ao.hh;subst this
           have:=a1.hh;subst this
           obtain ⟨aq,vf⟩:=ix dD
           simp only [Bool.and_eq_true,my,decide_eq_true_eq,Nat.beq_eq] at aq
           obtain ⟨⟨a6,U,ad⟩,aI⟩:=aq
           rw [Nat.ble_eq] at CS
           cases a7:e4 h (gM z.cells c.toNat) with
           | none=>rw [a7] at vf;cases vf
           | some a8=>
             rw [a7] at vf
             simp only [aT.val.injEq] at vf
             obtain ⟨rfl,rfl⟩:=vf
             obtain ⟨nI,vH,nk,nm⟩:=qh (P:=P) (E:=E) b5 bn w
             have rv:nI.cells.size=bb.size:=by rw [nm,aI]
             have rq:=wJ nk c.toNat
             obtain ⟨ar,g1,g2,g3,g4⟩:=zb (P:=P) s rq a7 e
             obtain ⟨i,aC,pE⟩:=Fi (P:=P) b5 w
             have DW:IntKind.i64.wrap l=l:=by simp only [IntKind.wrap,IntKind.bits,IntKind.signed];simp;omega
             have Vv:IntKind.i64.wrap c=c:=by simp only [IntKind.wrap,IntKind.bits,IntKind.signed];simp;omega
             have hmul:(bb.bytes:Int) * c≤4096 * 1000000:=by
              have af:(bb.bytes:Int)≤4096:=by omega
              have:=Int.mul_le_mul_of_nonneg_right (c:=c) af (by omega)
              omega
             refine ⟨.slice (some ⟨w.heap.size,0,none⟩) l.toNat c.toNat,_,ar,?_,g1,?_,g4⟩
             · have kd:=g3
               simp only [Array.toArray_toList] at kd
               have bB:¬c<0:=by omega
               have bX:¬((bb.bytes:Int) * c>281474976710656):=by omega
               have c3:¬l<0:=by omega
               have fq:¬l>c:=by omega
               have same:(if c.toNat * bb.size=0 then (Array.range (c.toNat * bb.size)).map (fun x=>(#[]:Array Value)[x % (#[]:Array Value).size]!) else (Array.range (c.toNat * bb.size)).map (fun x=>nI.cells[x % nI.cells.size]!))=
                (Array.range (c.toNat * nI.cells.size)).map (nI.cells[· % nI.cells.size]!):=by
                rw [rv]
                by_cases aE:c.toNat * bb.size=0
                · rw [aE];simp
                · rw [if_neg aE]
               simp only [Instr.makeSlice,Sem.run_bind,hu,Result.andThen_ok,asInt,asIntOf,Sem.run_pure,aC,DW,Vv,pE]
               rw [if_neg (by simp only [Bool.or_eq_true,decide_eq_true_eq,not_or];exact ⟨⟨⟨bB,bX⟩,c3⟩,fq⟩)]
               simp only [Result.andThen_ok,Sem.run_bind,run_askRoom,hW b5]
               by_cases aE:c.toNat * bb.size=0
               · rw [if_pos aE] at same
                 rw [if_pos aE]
                 simp only [Sem.run_pure,Result.andThen_ok,Sem.run_bind,same,kd,Array.toArray_toList]
               · rw [if_neg aE] at same
                 rw [if_neg aE]
                 simp only [Sem.run_pure,Result.andThen_ok,Sem.run_bind,vH,same,kd,Array.toArray_toList]
             · simp only [Rel]
               exact ⟨_,g2,by omega,by simp⟩
   | _=>rw [bC] at he;cases he
end
end Go.Proofs.YtkehcalakofigaaGreatDoor.aY
namespace Go.Proofs.YtkehcalakofigaaGreatDoor.aY
variable [Lay]
open Go Go.RowKit
theorem aN.jz:∀{p q:aN},aN.fC p q=true→p=q
 | .z,.z,_=>rfl
 | .l p,.l q,h=>by rw [aN.jz (p:=p) (q:=q) h]
 | .r p,.r q,h=>by rw [aN.jz (p:=p) (q:=q) h]
 | .z,.l _,h=>by cases h
 | .z,.r _,h=>by cases h
 | .l _,.z,h=>by cases h
 | .l _,.r _,h=>by cases h
 | .r _,.z,h=>by cases h
 | .r _,.l _,h=>by cases h
theorem aN.u4:∀p:aN,aN.fC p p=true
 | .z=>rfl
 | .l p=>aN.u4 p
 | .r p=>aN.u4 p
section
variable {P:Program}
theorem Ld {au:Fr} {E:Env} {h:ae} {w:World} (s:aW au E h w) {b:aN} {p:gO} (ag:E b=some p) (af:(h.get b).zx=true):(h.get b).own=true∧∃c t,w.heap[p.bd]? =some (.cells c t (0,0)):=by
 have az:=s.at ag
 cases aD:h.get b<;>rw [aD] at af<;>try (cases af;done)
 rename_i n cs cj st
 rw [aD] at az
 obtain ⟨_,p',c,el,bF,aF,_,q9,_,cb,_⟩:=az
 rw [ag] at aF;cases aF
 have:st=false:=by simpa [bS.zx] using af
 rw [cb this] at q9
 exact ⟨rfl,c,el,q9⟩
theorem Lr {t:TypeId} (h:jT P t=true):∃e j,P.underlying t=some (.pointer e)∧P.info? e=some j∧j.size≠0:=by
 unfold jT at h
 cases aB:aX P t with
 | none=>rw [aB] at h;cases h
 | some aL=>
   rw [aB] at h
   simp only at h
   cases hu:aL.a_<;>rw [hu] at h<;>simp only at h<;>try (cases h;done)
   rename_i e
   cases he:aX P e with
   | none=>rw [he] at h;cases h
   | some bb=>
     rw [he] at h
     simp only at h
     obtain ⟨_,_,ad,_⟩:=qf aB
     obtain ⟨j,g1,_,g3,_⟩:=qf he
     refine ⟨e,j,by rw [ad,hu],g1,fun cE=>?_⟩
     rw [g3,cE] at h
     cases h
theorem Z' {t:TypeId} (h:jT P t=true) (w:World):∃e,(underlying t).run P w=.ok (.pointer e) w:=by
 obtain ⟨e,_,U,_⟩:=Lr h
 exact ⟨e,Fj U w⟩
theorem aaP {t e:TypeId} {w:World} (hu:(underlying t).run P w=.ok (.pointer e) w) (b:Bool) (v:Value):(Instr.checkKey b 10000 t v).run P w=.ok () w:=by
 show (Instr.checkKey b (9999+1) t v).run P w=.ok () w
 unfold Instr.checkKey
 rw [Sem.run_bind,hu]
 rfl
theorem Lp {au:Fr} {E:Env} {h:ae} {w:World} (s:aW au E h w) {t:TypeId} (aB:jT P t=true) {x y:V} {X Y:Value} {b:Bool} (he:lJ h x y=some b) (ao:Rel E x X) (a1:Rel E y Y):
 (∃a c,X=.pointer (some a)∧Y=.pointer (some c))∧∀d,(Op.equalIn (d+1) t X Y).run P w=.ok b w:=by
 obtain ⟨e,j,ag,b5,b4⟩:=Lr aB
 unfold lJ at he
 split at he
 case h_2=>cases he
 rename_i bJ cQ
 split at he
 case h_2=>cases he
 rename_i cg cD
 simp only [Rel] at ao a1
 obtain ⟨p,gJ,rfl⟩:=ao
 obtain ⟨q,gl,rfl⟩:=a1
 refine ⟨⟨_,_,rfl,rfl⟩,fun d=>?_⟩
 cases heq:aN.fC bJ cg with
 | true=>
   rw [heq] at he
   simp only [cond_true,Option.some.injEq] at he
   have:=aN.jz heq
   subst this
   rw [gJ] at gl;cases gl
   have af:b=decide (cQ=cD):=by
    rw [←he]
    by_cases h:cQ=cD
    · subst h;simp
    · rw [decide_eq_false h,←Bool.not_eq_true,Nat.beq_eq];exact h
   have key:(sameAddr ⟨p.bd,p.base+cQ,none⟩ ⟨p.bd,p.base+cD,none⟩).run P w=.ok b w:=by
    rw [af]
    by_cases h:cQ=cD
    · subst h
      simpa using run_sameAddr_same w (⟨p.bd,p.base+cQ,none⟩:Addr)
    · have c2:((⟨p.bd,p.base+cQ,none⟩:Addr) == ⟨p.bd,p.base+cD,none⟩)=false:=by
       rw [beq_eq_false_iff_ne]
       intro e
       injection e with _ aM _
       omega
      simp [sameAddr,c2,h]
   simp [Op.equalIn,run_underlying ag,sizeOf,typeInfo,b5,b4,key]
 | false=>
   rw [heq] at he
   simp only [cond_false] at he
   obtain ⟨aq,he⟩:=dG he
   simp only [Bool.and_eq_true] at aq
   cases he
   obtain ⟨EN,bB,t1,nc⟩:=Ld s gJ aq.1
   obtain ⟨EO,bX,t2,C_⟩:=Ld s gl aq.2
   have c2:(⟨p.bd,p.base+cQ,none⟩:Addr)≠⟨q.bd,q.base+cD,none⟩:=by
    intro e
    injection e with aF _ _
    have:=s.inj bJ cg p q EN EO gJ gl aF
    subst this
    rw [aN.u4] at heq
    cases heq
   simp [Op.equalIn,run_underlying ag,sizeOf,typeInfo,b5,b4,run_sameAddr_other w c2 nc C_]
theorem Z8 {au:Fr} {E:Env} {h:ae} {w:World} (s:aW au E h w) {op:BinOp} {t:TypeId} {neg:Bool} (i_:zB P op t=some neg) {x y:V} {ho hp:Operand} {X Y:Value} {b:Bool} (he:lJ h x y=some b) (ao:Rel E x X) (a1:Rel E y Y):
 ∃Z,(do eqGuard op t ho hp X Y;binOp op t X Y:Sem Value).run P w=.ok Z w∧Rel E (.bool (bif neg then !b else b)) Z:=by
 unfold zB at i_
 have main:jT P t=true→((op=.eql∧neg=false)∨(op=.neq∧neg=true))→∃Z,(do eqGuard op t ho hp X Y;binOp op t X Y:Sem Value).run P w=.ok Z w∧Rel E (.bool (bif neg then !b else b)) Z:=by
  intro aB jK
  obtain ⟨⟨a,c,rfl,rfl⟩,cu⟩:=Lp s aB he ao a1
  have aD:=fun (o:BinOp)=>xW (P:=P) (op:=o) (t:=t) (x:=ho) (y:=hp) (X:=.pointer (some a)) (Y:=.pointer (some c)) (by simp) (.inl (by simp)) w
  have aF:(Op.equal t (.pointer (some a)) (.pointer (some c))).run P w=.ok b w:=cu 9999
  rcases jK with ⟨rfl,rfl⟩ | ⟨rfl,rfl⟩
  · refine ⟨.bool b,?_,by simp [Rel]⟩
    rw [Sem.run_bind,aD,Result.andThen_ok,binOp_eql (X:=.pointer (some a)) True.intro,Sem.run_bind,aF]
    rfl
  · refine ⟨.bool (!b),?_,by simp [Rel]⟩
    rw [Sem.run_bind,aD,Result.andThen_ok,binOp_neq (X:=.pointer (some a)) True.intro,Sem.run_bind,aF]
    rfl
 cases op<;>simp only at i_<;>try (cases i_;done)
 · obtain ⟨U,ad⟩:=dG i_
   cases ad
   exact main U (.inl ⟨rfl,rfl⟩)
 · obtain ⟨U,ad⟩:=dG i_
   cases ad
   exact main U (.inr ⟨rfl,rfl⟩)
end
end Go.Proofs.YtkehcalakofigaaGreatDoor.aY
namespace Go.Proofs.YtkehcalakofigaaGreatDoor.aY
variable [Lay]
open Go Go.RowKit
section
variable {P:Program}
def sk (P:Program) (w:World) (E:Env) (b1:TypeId) (e:c1):Prop:=
 ∀k bl K kC b,e.run k bl=some b→Rel E k K→Rel E bl kC→(Op.equal b1 K kC).run P w=.ok b w∧(b=true→kC=K∧Instr.sameBits 10000 K K=true)
theorem Z9 {au:Fr} {E:Env} {h:ae} {w:World} (s:aW au E h w) {b1:TypeId} (aB:jT P b1=true):sk P w E b1 ⟨lJ h⟩:=by
 intro k bl K kC b he ao a1
 obtain ⟨⟨a,c,rfl,rfl⟩,cu⟩:=Lp s aB he ao a1
 refine ⟨cu 9999,fun af=>?_⟩
 subst af
 simp only [lJ] at he
 split at he
 case h_2=>cases he
 split at he
 case h_2=>cases he
 rename_i bJ cQ _ cg cD
 simp only [Rel] at ao a1
 obtain ⟨p,gJ,ao⟩:=ao
 obtain ⟨q,gl,a1⟩:=a1
 cases heq:aN.fC bJ cg with
 | false=>
   rw [heq] at he
   simp only [cond_false] at he
   obtain ⟨_,he⟩:=dG he
   cases he
 | true=>
   rw [heq] at he
   simp only [cond_true,Option.some.injEq] at he
   have:=aN.jz heq
   subst this
   rw [gJ] at gl;cases gl
   have:=Nat.eq_of_beq_eq_true he
   subst this
   rw [ao,a1]
   exact ⟨rfl,by simp [Instr.sameBits]⟩
theorem HY {w:World} {E:Env} {b1:TypeId} {e:c1} (jC:sk P w E b1 e) {k:V} {K:Value} (az:Rel E k K):∀(es:List bW) (l:List MapEntry) (r:Option V) (i:Nat),jB e k es=some r→df E es l→
 ∃R,(Instr.findAsking b1 K l i).run P w=.ok R w∧(match r with
  | none=>R=none
  | some v=>∃j Y,R=some (j,Y)∧Rel E v Y)
 | [],l,r,i,h,aH=>by
   simp only [df] at aH
   subst aH
   simp only [jB,Option.some.injEq] at h
   subst h
   exact ⟨none,rfl,rfl⟩
 | m::ms,l,r,i,h,aH=>by
   obtain ⟨di,es,rfl,U,ad,aI,bq⟩:=aH
   simp only [jB] at h
   cases aR:e.run k m.k with
   | none=>rw [aR] at h;cases h
   | some b=>
     rw [aR] at h
     simp only at h
     obtain ⟨ai,ay⟩:=jC _ _ _ _ _ aR az U
     cases b with
     | true=>
       simp only [cond_true,Option.some.injEq] at h
       subst h
       exact ⟨some (i,di.val),by simp [Instr.findAsking,ai],i,di.val,rfl,ad⟩
     | false=>
       simp only [cond_false] at h
       obtain ⟨R,g1,g2⟩:=HY jC az ms es r (i+1) h bq
       exact ⟨R,by simp [Instr.findAsking,ai,g1],g2⟩
theorem Ls {w:World} {E:Env} {b1:TypeId} {e:c1} (jC:sk P w E b1 e) {k v:V} {K X:Value} (az:Rel E k K) (bw:Rel E v X) (clock:Nat):∀(es:List bW) (l:List MapEntry) (r:List bW × Bool) (i:Nat),kv e k v clock es=some r→df E es l→
 (r.2=true→(Instr.findAsking b1 K l i).run P w=.ok none w∧df E r.1 (l++[⟨K,X,clock⟩]))∧
 (r.2=false→∃j di Y,(Instr.findAsking b1 K l i).run P w=.ok (some (i+j,Y)) w∧l[j]? =some di∧Instr.sameBits 10000 di.key K=true∧df E r.1 (l.modify j fun di=>{di with key:=K,val:=X}))
 | [],l,r,i,h,aH=>by
   simp only [df] at aH
   subst aH
   simp only [kv,Option.some.injEq] at h
   subst h
   exact ⟨fun _=>⟨rfl,_,_,rfl,az,bw,rfl,rfl⟩,fun h=>by cases h⟩
 | m::ms,l,r,i,h,aH=>by
   obtain ⟨di,es,rfl,U,ad,aI,bq⟩:=aH
   simp only [kv] at h
   cases aR:e.run k m.k with
   | none=>rw [aR] at h;cases h
   | some b=>
     rw [aR] at h
     simp only at h
     obtain ⟨ai,ay⟩:=jC _ _ _ _ _ aR az U
     cases b with
     | true=>
       simp only [cond_true,Option.some.injEq] at h
       subst h
       obtain ⟨aK,bE⟩:=ay rfl
       refine ⟨fun h=>(by cases h),fun _=>⟨0,di,di.val,by simp [Instr.findAsking,ai],rfl,by rw [aK];exact bE,?_⟩⟩
       exact ⟨_,es,rfl,az,bw,aI,bq⟩
     | false=>
       simp only [cond_false] at h
       cases ag:kv e k v clock ms with
       | none=>rw [ag] at h;cases h
       | some bo=>
         rw [ag] at h
         simp only [Option.some.injEq] at h
         subst h
         obtain ⟨g1,g2⟩:=Ls jC az bw clock ms es bo (i+1) ag bq
         refine ⟨fun h=>?_,fun h=>?_⟩
         · obtain ⟨bN,a2⟩:=g1 h
           exact ⟨by simp [Instr.findAsking,ai,bN],⟨di,es++[⟨K,X,clock⟩],rfl,U,ad,aI,a2⟩⟩
         · obtain ⟨j,cN,Y,bN,a2,a3,a4⟩:=g2 h
           exact ⟨j+1,cN,Y,by simp [Instr.findAsking,ai,bN];omega,by simpa using a2,a3,⟨di,_,rfl,U,ad,aI,a4⟩⟩
theorem aaR {b1:TypeId} {h3:TypeId} {w:World} (hu:(underlying b1).run P w=.ok (.pointer h3) w) {K:Value} {l:List MapEntry} {R:Option (Nat × Value)} (h:(Instr.findAsking b1 K l 0).run P w=.ok R w):
 (Instr.findKey b1 K l).run P w=.ok R w:=by
 cases l with
 | nil=>
   simp only [Instr.findAsking,Sem.run_pure] at h
   cases h
   simp [Instr.findKey,hu,Instr.findNow]
 | cons di es=>
   have a7:Instr.findNow (.pointer h3) K (di::es) 0=none:=by simp [Instr.findNow,Instr.sameNow]
   simp [Instr.findKey,hu,a7,h]
theorem Sh {x y:V} (h:qN x y=true):x=y:=by
 cases x<;>simp only [qN] at h<;>try (cases h;done)
 all_goals (cases y<;>simp only at h<;>try (cases h;done))
 · rw [beq_iff_eq] at h;rw [h]
 · simp only [Bool.and_eq_true,jz,beq_iff_eq] at h
   rw [pq h.1,h.2]
 · rw [qE,beq_iff_eq] at h;rw [h]
theorem HP:∀{xs bZ:List V},qO xs bZ=true→xs=bZ
 | [],[],_=>rfl
 | [],_::_,h=>by cases h
 | _::_,[],h=>by cases h
 | x::xs,y::bZ,h=>by
   simp only [qO] at h
   cases U:qN x y with
   | false=>rw [U] at h;cases h
   | true=>rw [U] at h;rw [Sh U,HP h]
theorem Sg {E:Env} {x:V} {X Y:Value} (h:qN x x=true) (cK:Rel E x X) (ej:Rel E x Y):X=Y∧∀n,Instr.sameBits n X X=true:=by
 cases x<;>simp only [qN] at h<;>try (cases h;done)
 · simp only [Rel] at cK ej;subst cK ej;exact ⟨rfl,fun n=>by cases n<;>simp [Instr.sameBits]⟩
 · simp only [Rel] at cK ej;subst cK ej;exact ⟨rfl,fun n=>by cases n<;>simp [Instr.sameBits]⟩
 · simp only [Rel] at cK ej;subst cK ej;exact ⟨rfl,fun n=>by cases n<;>simp [Instr.sameBits,bytes_beq]⟩
theorem HO {E:Env}:∀{xs:List V} {l dY:List Value},qO xs xs=true→aZ E xs l→aZ E xs dY→l=dY∧∀n,((l.zip l).all fun (x,y)=>Instr.sameBits n x y)=true
 | [],l,dY,_,U,ad=>by
   simp only [aZ] at U ad
   subst U ad
   exact ⟨rfl,fun _=>rfl⟩
 | x::xs,l,dY,h,U,ad=>by
   obtain ⟨y,bZ,rfl,bN,a2⟩:=U
   obtain ⟨o6,aee,rfl,bJ,cg⟩:=ad
   simp only [qO] at h
   cases aq:qN x x with
   | false=>rw [aq] at h;cases h
   | true=>
     rw [aq] at h
     obtain ⟨rfl,ai⟩:=Sg aq bN bJ
     obtain ⟨rfl,ay⟩:=HO h a2 cg
     exact ⟨rfl,fun n=>by simp only [List.zip_cons_cons,List.all_cons,ai,ay,Bool.and_self]⟩
theorem aby {w:World} {E:Env} {b1:TypeId}:sk P w E b1 (structEq P b1):=by
 intro k bl K kC b he ao a1
 simp only [structEq] at he
 split at he
 case h_2=>cases he
 split at he
 case h_2=>cases he
 rename_i xs _ bZ
 cases aE:(fN P 12 b1).run (.agg xs) (.agg bZ) with
 | none=>rw [aE] at he;cases he
 | some c=>
   rw [aE] at he
   have aR:=Ck 12 Op.maxDepth b1 _ _ K kC c (by decide) aE ao a1 w
   cases c with
   | false=>
     simp only [cond_false,Option.some.injEq] at he
     subst he
     exact ⟨aR,fun h=>by cases h⟩
   | true=>
     simp only [cond_true] at he
     cases ag:qO xs bZ with
     | false=>rw [ag] at he;cases he
     | true=>
       rw [ag] at he
       simp only [cond_true,Option.some.injEq] at he
       subst he
       refine ⟨aR,fun _=>?_⟩
       have:=HP ag
       subst this
       simp only [Rel] at ao a1
       obtain ⟨a,rfl,U⟩:=ao
       obtain ⟨bf,rfl,ad⟩:=a1
       obtain ⟨e,q⟩:=HO ag U ad
       have cN:a=bf:=Array.toList_inj.1 e
       subst cN
       exact ⟨rfl,by show Instr.sameBits (9999+1) _ _=true;simp only [Instr.sameBits,beq_self_eq_true,Bool.true_and];exact q _⟩
theorem run_checkKey_plain {a_:TypeDesc} (ax:kS a_=true) {t:TypeId} {w:World} (hu:(underlying t).run P w=.ok a_ w) (b:Bool) (n:Nat) (v:Value):(Instr.checkKey b (n+1) t v).run P w=.ok () w:=by
 unfold Instr.checkKey
 rw [Sem.run_bind,hu]
 cases a_<;>simp only [kS] at ax<;>first
  | (cases ax;done)
  | rfl
theorem SP {w:World} {E:Env} {cs:List V} {a:Array Value} (bm:aZ E cs a.toList) (b:Bool) (n:Nat):∀(bP:List Field),x5 P cs bP=true→
 (do for f in bP do
      if f.name≠ "_" then Instr.checkKey b (n+1) f.type (←part f.type a f.offset):Sem Unit).run P w=.ok () w:=by
 intro bP
 induction bP with
 | nil=>intro _;simp
 | cons f bP bh=>
   intro h
   simp only [x5] at h
   cases U:(mE P f.type f.offset).run cs with
   | none=>rw [U] at h;cases h
   | some x=>
     rw [U] at h
     simp only at h
     cases ad:aX P f.type with
     | none=>rw [ad] at h;cases h
     | some h5=>
       rw [ad] at h
       simp only at h
       cases aI:kS h5.a_ with
       | false=>rw [aI] at h;cases h
       | true=>
         rw [aI] at h
         simp only [cond_true] at h
         obtain ⟨X,cK,_⟩:=wA bm U w
         have az:=run_checkKey_plain (P:=P) aI (ez ad w) b n X
         have:=bh h
         by_cases a7:f.name= "_"
         · simpa [a7] using this
         · simpa [a7,cK,az] using this
theorem abz {t:TypeId} (h:oZ P t=true) (w:World):∃bP,(underlying t).run P w=.ok (.struct bP) w:=by
 unfold oZ at h
 cases aB:aX P t with
 | none=>rw [aB] at h;cases h
 | some aL=>
   rw [aB] at h
   simp only at h
   have hu:=ez aB w
   cases bC:aL.a_<;>rw [bC] at h<;>simp only at h<;>try (cases h;done)
   rw [bC] at hu
   exact ⟨_,hu⟩
theorem aaQ {t:TypeId} {k:V} (aD:rF P t k=true) {E:Env} {K:Value} (az:Rel E k K) {w:World} (b:Bool):(Instr.checkKey b 10000 t K).run P w=.ok () w:=by
 unfold rF at aD
 cases aB:aX P t with
 | none=>rw [aB] at aD;cases aD
 | some aL=>
   rw [aB] at aD
   simp only at aD
   have hu:=ez aB w
   cases bC:aL.a_<;>rw [bC] at aD<;>simp only at aD<;>try (cases aD;done)
   rename_i bP
   rw [bC] at hu
   cases k<;>simp only at aD<;>try (cases aD;done)
   rename_i cs
   simp only [Rel] at az
   obtain ⟨a,rfl,bm⟩:=az
   show (Instr.checkKey b (9998+1+1) t (.agg a)).run P w=.ok () w
   unfold Instr.checkKey
   rw [Sem.run_bind,hu]
   have:=SP (P:=P) (w:=w) bm b 9998 bP.toList aD
   simp only [Result.andThen_ok,Array.forIn_toList] at this ⊢
   exact this
theorem aaS {b1:TypeId} {bP:Array Field} {w:World} (hu:(underlying b1).run P w=.ok (.struct bP) w) {K:Value} {l:List MapEntry} {R:Option (Nat × Value)} (h:(Instr.findAsking b1 K l 0).run P w=.ok R w):
 (Instr.findKey b1 K l).run P w=.ok R w:=by
 cases l with
 | nil=>
   simp only [Instr.findAsking,Sem.run_pure] at h
   cases h
   simp [Instr.findKey,hu,Instr.findNow]
 | cons di es=>
   have a7:Instr.findNow (.struct bP) K (di::es) 0=none:=by simp [Instr.findNow,Instr.sameNow]
   simp [Instr.findKey,hu,a7,h]
structure ur (P:Program) (w:World) (E:Env) (b1:TypeId) (e:c1) (K:Value):Prop where
 eq:sk P w E b1 e
 check:∀b,(Instr.checkKey b 10000 b1 K).run P w=.ok () w
 find:∀{l:List MapEntry} {R},(Instr.findAsking b1 K l 0).run P w=.ok R w→(Instr.findKey b1 K l).run P w=.ok R w
theorem A2 {au:Fr} {E:Env} {h:ae} {w:World} (s:aW au E h w) {b1:TypeId} (aB:jT P b1=true) (K:Value):ur P w E b1 ⟨lJ h⟩ K:=by
 obtain ⟨K',ke⟩:=Z' aB w
 exact ⟨Z9 s aB,fun b=>aaP ke b K,fun q=>aaR ke q⟩
theorem A3 {w:World} {E:Env} {b1:TypeId} (aB:oZ P b1=true) {k:V} (aD:rF P b1 k=true) {K:Value} (az:Rel E k K):ur P w E b1 (structEq P b1) K:=by
 obtain ⟨bP,ke⟩:=abz aB w
 exact ⟨aby,fun b=>aaQ aD az b,fun q=>aaS ke q⟩
end
end Go.Proofs.YtkehcalakofigaaGreatDoor.aY
namespace Go.Proofs.YtkehcalakofigaaGreatDoor.aY
variable [Lay]
open Go Go.RowKit
section
variable {P:Program}
theorem D_ {E:Env} {a_:TypeDesc} {k bl:V} {K kC:Value} {b:Bool} (he:(iG a_).run k bl=some b) (ao:Rel E k K) (a1:Rel E bl kC):
 Instr.sameNow a_ K kC=some b∧(b=true→kC=K∧∀n,Instr.sameBits n K K=true):=by
 cases a_<;>simp only [iG] at he<;>try (simp [c1.none] at he;done)
 case bool=>
  simp only [mV] at he
  cases k<;>simp only at he<;>try (cases he;done)
  cases bl<;>simp only at he<;>try (cases he;done)
  simp only [Rel] at ao a1
  subst ao a1
  simp only [Option.some.injEq] at he
  subst he
  refine ⟨rfl,fun h=>?_⟩
  rw [beq_iff_eq] at h
  subst h
  exact ⟨rfl,fun n=>by cases n<;>simp [Instr.sameBits]⟩
 case int nq=>
  simp only [jA] at he
  obtain ⟨j,m,rfl,U⟩:=hF he
  clear he
  obtain ⟨yX,cI,rfl,ad⟩:=hF U
  clear U
  obtain ⟨az,h⟩:=dG ad
  clear ad
  have:=pq az
  subst this
  simp only [Rel] at ao a1
  subst ao a1
  simp only [Option.some.injEq,jz] at h
  subst h
  refine ⟨by simp [Instr.sameNow],fun h=>?_⟩
  rw [beq_iff_eq] at h
  subst h
  exact ⟨rfl,fun n=>by cases n<;>simp [Instr.sameBits]⟩
 case string=>
  simp only [qP] at he
  cases k<;>simp only at he<;>try (cases he;done)
  cases bl<;>simp only at he<;>try (cases he;done)
  simp only [Rel] at ao a1
  subst ao a1
  simp only [Option.some.injEq,qE] at he
  subst he
  refine ⟨by simp only [Instr.sameNow,bytes_beq],fun h=>?_⟩
  rw [beq_iff_eq] at h
  subst h
  exact ⟨rfl,fun n=>by cases n<;>simp [Instr.sameBits,bytes_beq]⟩
theorem run_checkKey {a_:TypeDesc} (ax:kS a_=true) {t:TypeId} {w:World} (hu:(underlying t).run P w=.ok a_ w) (b:Bool) (v:Value):(Instr.checkKey b 10000 t v).run P w=.ok () w:=by
 show (Instr.checkKey b (9999+1) t v).run P w=.ok () w
 unfold Instr.checkKey
 rw [Sem.run_bind,hu]
 cases a_<;>simp only [kS] at ax<;>first
  | (cases ax;done)
  | rfl
theorem run_findKey {a_:TypeDesc} {t:TypeId} {w:World} (hu:(underlying t).run P w=.ok a_ w) {K:Value} {l:List MapEntry} {R:Option (Nat × Value)} (h:Instr.findNow a_ K l 0=some R):
 (Instr.findKey t K l).run P w=.ok R w:=by
 simp only [Instr.findKey,Sem.run_bind,hu,Result.andThen_ok,h,Sem.run_pure]
theorem H4 {E:Env} {a_:TypeDesc} {k:V} {K:Value} (az:Rel E k K):∀(es:List bW) (l:List MapEntry) (r:Option V) (i:Nat),jB (iG a_) k es=some r→df E es l→
 ∃R,Instr.findNow a_ K l i=some R∧(match r with
  | none=>R=none
  | some v=>∃j Y,R=some (j,Y)∧Rel E v Y)
 | [],l,r,i,h,aH=>by
   simp only [df] at aH
   subst aH
   simp only [jB,Option.some.injEq] at h
   subst h
   exact ⟨none,rfl,rfl⟩
 | m::ms,l,r,i,h,aH=>by
   obtain ⟨e,es,rfl,U,ad,aI,bq⟩:=aH
   simp only [jB] at h
   cases aR:(iG a_).run k m.k with
   | none=>rw [aR] at h;cases h
   | some b=>
     rw [aR] at h
     simp only at h
     obtain ⟨ai,ay⟩:=D_ aR az U
     cases b with
     | true=>
       simp only [cond_true,Option.some.injEq] at h
       subst h
       exact ⟨some (i,e.val),by simp only [Instr.findNow,ai],i,e.val,rfl,ad⟩
     | false=>
       simp only [cond_false] at h
       obtain ⟨R,g1,g2⟩:=H4 az ms es r (i+1) h bq
       exact ⟨R,by simp only [Instr.findNow,ai,g1],g2⟩
theorem Lw {E:Env} {a_:TypeDesc} {k v:V} {K X:Value} (az:Rel E k K) (bw:Rel E v X) (clock:Nat):∀(es:List bW) (l:List MapEntry) (r:List bW × Bool) (i:Nat),kv (iG a_) k v clock es=some r→df E es l→
 (r.2=true→Instr.findNow a_ K l i=some none∧df E r.1 (l++[⟨K,X,clock⟩]))∧
 (r.2=false→∃j e Y,Instr.findNow a_ K l i=some (some (i+j,Y))∧l[j]? =some e∧Instr.sameBits 10000 e.key K=true∧df E r.1 (l.modify j fun e=>{e with key:=K,val:=X}))
 | [],l,r,i,h,aH=>by
   simp only [df] at aH
   subst aH
   simp only [kv,Option.some.injEq] at h
   subst h
   exact ⟨fun _=>⟨rfl,_,_,rfl,az,bw,rfl,rfl⟩,fun h=>by cases h⟩
 | m::ms,l,r,i,h,aH=>by
   obtain ⟨e,es,rfl,U,ad,aI,bq⟩:=aH
   simp only [kv] at h
   cases aR:(iG a_).run k m.k with
   | none=>rw [aR] at h;cases h
   | some b=>
     rw [aR] at h
     simp only at h
     obtain ⟨ai,ay⟩:=D_ aR az U
     cases b with
     | true=>
       simp only [cond_true,Option.some.injEq] at h
       subst h
       obtain ⟨aK,bE⟩:=ay rfl
       refine ⟨fun h=>(by cases h),fun _=>⟨0,e,e.val,by simp only [Instr.findNow,ai,Nat.add_zero],rfl,by rw [aK];exact bE _,?_⟩⟩
       exact ⟨_,es,rfl,az,bw,aI,bq⟩
     | false=>
       simp only [cond_false] at h
       cases ag:kv (iG a_) k v clock ms with
       | none=>rw [ag] at h;cases h
       | some bo=>
         rw [ag] at h
         simp only [Option.some.injEq] at h
         subst h
         obtain ⟨g1,g2⟩:=Lw az bw clock ms es bo (i+1) ag bq
         refine ⟨fun h=>?_,fun h=>?_⟩
         · obtain ⟨bN,a2⟩:=g1 h
           exact ⟨by simp only [Instr.findNow,ai,bN],⟨e,es++[⟨K,X,clock⟩],rfl,U,ad,aI,a2⟩⟩
         · obtain ⟨j,cN,Y,bN,a2,a3,a4⟩:=g2 h
           exact ⟨j+1,cN,Y,by simp only [Instr.findNow,ai,bN];congr 3;omega,by simpa using a2,a3,e,_,rfl,U,ad,aI,a4⟩
theorem Ek {au:Fr} {E:Env} {h:ae} {w:World} (s:aW au E h w) {x:V} {X:Value} {es:List bW} (he:oH h x=some es) (ao:Rel E x X):
 (X=.map none∧es=[])∨∃r a clock,X=.map (some r)∧(getObj r).run P w=.ok (.map a clock) w∧df E es a.toList:=by
 cases x<;>simp only [oH] at he<;>try (cases he;done)
 · simp only [Rel] at ao
   exact .inl ⟨ao,by simpa using he.symm⟩
 · rename_i b
   simp only [Rel] at ao
   obtain ⟨p,ag,rfl⟩:=ao
   have af:=s.at ag
   cases aD:h.get b<;>rw [aD] at he<;>simp only [bS.iM] at he<;>try (cases he;done)
   simp only [Option.some.injEq] at he
   subst he
   rw [aD] at af
   obtain ⟨q,a,U,_,aI,bq⟩:=af
   rw [ag] at U;cases U
   exact .inr ⟨p.bd,a,_,rfl,by simp only [getObj,Sem.run,aI];rfl,bq⟩
theorem H0 {a_:TypeDesc} {K:Value}:∀{l:List MapEntry} {i:Nat},(∀e ∈ l,Instr.sameNow a_ K e.key=some false)→Instr.findNow a_ K l i=some none
 | [],_,_=>rfl
 | e::es,i,h=>by
   simp only [Instr.findNow,h e (by simp)]
   exact H0 fun cN dx=>h cN (by simp [dx])
theorem H2 {a_:TypeDesc} {K:Value}:∀{l:List MapEntry} {i:Nat},(∀e ∈ l,∃b,Instr.sameNow a_ K e.key=some b)→(∃e ∈ l,Instr.sameNow a_ K e.key=some true)→
 ∃j,∃e ∈ l,Instr.sameNow a_ K e.key=some true∧Instr.findNow a_ K l i=some (some (j,e.val))
 | [],_,_,h=>by obtain ⟨e,he,_⟩:=h;simp at he
 | e::es,i,U,ad=>by
   obtain ⟨b,af⟩:=U e (by simp)
   cases b with
   | true=>exact ⟨i,e,by simp,af,by simp only [Instr.findNow,af]⟩
   | false=>
     obtain ⟨cN,dx,aB⟩:=ad
     simp only [List.mem_cons] at dx
     rcases dx with rfl | dx
     · rw [af] at aB;cases aB
     · obtain ⟨j,aM,ai,ay,aK⟩:=H2 (i:=i+1) (fun x ao=>U x (by simp [ao])) ⟨cN,dx,aB⟩
       exact ⟨j,aM,by simp [ai],ay,by simp only [Instr.findNow,af,aK]⟩
theorem H3 {E:Env} {a_:TypeDesc} {k:V} {K:Value} (az:Rel E k K):∀(es:List bW) (l:List MapEntry) (r:Option V),j' (iG a_) k es=some r→iv E es l→
 (∀e ∈ l,∃b,Instr.sameNow a_ K e.key=some b)∧(match r with
  | none=>∀e ∈ l,Instr.sameNow a_ K e.key=some false
  | some v=>(∃e ∈ l,Instr.sameNow a_ K e.key=some true)∧∀e ∈ l,Instr.sameNow a_ K e.key=some true→Rel E v e.val)
 | [],l,r,h,aH=>by
   simp only [iv] at aH
   subst aH
   simp only [j',Option.some.injEq] at h
   subst h
   exact ⟨fun e he=>by simp at he,fun e he=>by simp at he⟩
 | m::ms,l,r,h,aH=>by
   obtain ⟨e,es,rfl,U,ad,bq⟩:=aH
   simp only [j'] at h
   cases ax:j' (iG a_) k ms with
   | none=>rw [ax] at h;cases h
   | some bo=>
     rw [ax] at h
     simp only at h
     obtain ⟨g1,g2⟩:=H3 az ms es bo ax bq
     cases aR:(iG a_).run k m.k with
     | none=>rw [aR] at h;cases h
     | some b=>
       rw [aR] at h
       simp only at h
       obtain ⟨ai,_⟩:=D_ aR az U
       have CU:∀cN ∈ e::es,∃b,Instr.sameNow a_ K cN.key=some b:=by
        intro cN dx
        rcases List.mem_cons.1 dx with rfl | dx
        · exact ⟨b,ai⟩
        · exact g1 cN dx
       refine ⟨CU,?_⟩
       cases b with
       | true=>
         simp only [cond_true] at h
         cases bo with
         | some _=>cases h
         | none=>
           simp only [Option.some.injEq] at h
           subst h
           refine ⟨⟨e,by simp,ai⟩,fun cN dx aB=>?_⟩
           rcases List.mem_cons.1 dx with rfl | dx
           · exact ad
           · have:=g2 cN dx
             rw [aB] at this;cases this
       | false=>
         simp only [cond_false,Option.some.injEq] at h
         subst h
         cases bo with
         | none=>
           intro cN dx
           rcases List.mem_cons.1 dx with rfl | dx
           · exact ai
           · exact g2 cN dx
         | some v=>
           obtain ⟨⟨cE,dp,eF⟩,y3⟩:=g2
           refine ⟨⟨cE,by simp [dp],eF⟩,fun cN dx aB=>?_⟩
           rcases List.mem_cons.1 dx with rfl | dx
           · rw [ai] at aB;cases aB
           · exact y3 cN dx aB
theorem SG {E:Env} {a_:TypeDesc} {k:V} {K:Value} (az:Rel E k K) {es:List bW} {l a:List MapEntry} {r:Option V} (h:j' (iG a_) k es=some r) (aH:iv E es l) (ag:l.Perm a):
 ∃R,Instr.findNow a_ K a 0=some R∧(match r with
  | none=>R=none
  | some v=>∃j Y,R=some (j,Y)∧Rel E v Y):=by
 obtain ⟨U,ad⟩:=H3 az es l r h aH
 have hm:∀e,e ∈ a↔e ∈ l:=fun e=>ag.mem_iff.symm
 cases r with
 | none=>exact ⟨none,H0 fun e he=>ad e ((hm e).1 he),rfl⟩
 | some v=>
   obtain ⟨⟨cE,dp,eF⟩,y3⟩:=ad
   obtain ⟨j,e,ai,ay,aK⟩:=H2 (i:=0) (fun e he=>U e ((hm e).1 he)) ⟨cE,(hm cE).2 dp,eF⟩
   exact ⟨_,aK,j,e.val,rfl,y3 e ((hm e).1 ai) ay⟩
theorem YC {e:c1} {z:V} {ok:Bool} {h:ae} {x k v:V} (he:jk e z ok h x k=some v):
 nv e z ok h x k=some v∨∃b es r,x=.map b∧h.get b=.gb es∧j' e k es=some r∧v=(match r with
  | some u=>bif ok then .tuple [u,.bool true] else u
  | none=>bif ok then .tuple [z,.bool false] else z):=by
 unfold jk at he
 cases x<;>simp only at he<;>try (exact .inl he)
 rename_i b
 cases aD:h.get b<;>rw [aD] at he<;>simp only at he<;>try (exact .inl he)
 rename_i es
 cases ax:j' e k es with
 | none=>rw [ax] at he;cases he
 | some r=>
   rw [ax] at he
   refine .inr ⟨b,es,r,rfl,aD,ax,?_⟩
   cases r<;>simp only [Option.some.injEq] at he<;>exact he.symm
theorem YB {au:Fr} {E:Env} {h:ae} {w:World} (s:aW au E h w) {t:TypeId} {ok:Bool} {x k v:V} {X K:Value} (ao:Rel E x X) (az:Rel E k K) (he:(y9 P t ok).run h x k=some v):
 ∃Z,(Instr.lookup t X K ok).run P w=.ok Z w∧Rel E v Z:=by
 unfold y9 at he
 cases aB:aX P t with
 | none=>rw [aB] at he;cases he
 | some aL=>
   rw [aB] at he
   simp only at he
   have hu:=ez aB w
   cases bC:aL.a_<;>rw [bC] at he<;>simp only at he<;>try (cases he;done)
   rename_i b1 h3
   rw [bC] at hu
   cases kM:aX P b1 with
   | none=>rw [kM] at he;cases he
   | some fT=>
     rw [kM] at he
     simp only at he
     cases het:aX P h3 with
     | none=>rw [het] at he;cases he
     | some bb=>
       rw [het] at he
       simp only at he
       cases bn:bb.zero with
       | none=>rw [bn] at he;cases he
       | some z=>
         rw [bn] at he
         simp only at he
         cases ax:kS fT.a_ with
         | false=>
           rw [ax] at he
           simp only [cond_false] at he
           have py:∃e,ur P w E b1 e K∧nv e z ok h x k=some v:=by
            cases mo:jT P b1 with
            | true=>
              rw [mo] at he
              exact ⟨_,A2 s mo K,he⟩
            | false=>
              rw [mo] at he
              simp only [cond_false] at he
              cases cb:oZ P b1 with
              | false=>rw [cb] at he;cases he
              | true=>
                rw [cb] at he
                simp only [cond_true] at he
                obtain ⟨aD,he⟩:=dG he
                exact ⟨_,A3 cb aD az,he⟩
           clear he
           obtain ⟨e,ask,he⟩:=py
           obtain ⟨qi,ki,jM,_⟩:=ub (P:=P) het bn E w
           simp only [nv] at he
           cases hm:oH h x with
           | none=>rw [hm] at he;cases he
           | some es=>
             rw [hm] at he
             simp only at he
             cases q6:jB e k es with
             | none=>rw [q6] at he;cases he
             | some r=>
               rw [q6] at he
               simp only at he
               have main:∀(l:List MapEntry),df E es l→∃R,(Instr.findKey b1 K l).run P w=.ok R w∧
                ((R=none∧Rel E v (if ok=true then .tuple #[qi,.bool false] else qi))∨∃j Y,R=some (j,Y)∧Rel E v (if ok=true then .tuple #[Y,.bool true] else Y)):=by
                intro l aj
                obtain ⟨R,g1,g2⟩:=HY ask.eq az es l r 0 q6 aj
                refine ⟨R,ask.find g1,?_⟩
                cases r with
                | none=>
                  simp only at g2 he
                  refine .inl ⟨g2,?_⟩
                  simp only [Option.some.injEq] at he
                  subst he
                  cases ok
                  · exact jM
                  · simp only [cond_true,if_true,Rel,aZ];exact ⟨_,rfl,_,_,rfl,jM,_,_,rfl,rfl,rfl⟩
                | some u=>
                  simp only at g2 he
                  obtain ⟨j,Y,cn,ej⟩:=g2
                  refine .inr ⟨j,Y,cn,?_⟩
                  simp only [Option.some.injEq] at he
                  subst he
                  cases ok
                  · exact ej
                  · simp only [cond_true,if_true,Rel,aZ];exact ⟨_,rfl,_,_,rfl,ej,_,_,rfl,rfl,rfl⟩
               rcases Ek (P:=P) s hm ao with ⟨rfl,rfl⟩ | ⟨bx,a,clock,rfl,dR,rj⟩
               · obtain ⟨R,g1,g2⟩:=main [] rfl
                 have hO:=ask.check true
                 rcases g2 with ⟨rfl,g3⟩ | ⟨j,Y,rfl,g3⟩
                 all_goals
                  refine ⟨_,?_,g3⟩
                  simp only [Instr.lookup,Sem.run_bind,hu,Result.andThen_ok,Sem.run_pure]
                  have aF:(#[]:Array MapEntry).isEmpty=true:=rfl
                  rw [aF,hO,Result.andThen_ok,g1,Result.andThen_ok]
                  simp only [Sem.run_bind,ki,Result.andThen_ok,Sem.run_pure]
               · obtain ⟨R,g1,g2⟩:=main a.toList rj
                 have hO:=ask.check a.isEmpty
                 rcases g2 with ⟨rfl,g3⟩ | ⟨j,Y,rfl,g3⟩
                 all_goals
                  refine ⟨_,?_,g3⟩
                  simp only [Instr.lookup,Sem.run_bind,hu,Result.andThen_ok,Sem.run_pure,dR]
                  rw [hO,Result.andThen_ok,g1,Result.andThen_ok]
                  simp only [Sem.run_bind,ki,Result.andThen_ok,Sem.run_pure]
         | true=>
           rw [ax] at he
           simp only [cond_true] at he
           obtain ⟨qi,ki,jM,_⟩:=ub (P:=P) het bn E w
           have ke:=ez kM w
           rcases YC he with he | ⟨b,es,r,rfl,aD,Uh,rfl⟩
           case inr=>
            simp only [Rel] at ao
            obtain ⟨p,ag,rfl⟩:=ao
            have af:=s.at ag
            rw [aD] at af
            obtain ⟨p',a,c,l,fv,_,a8,Vl,Vm⟩:=af
            rw [ag] at fv;cases fv
            obtain ⟨R,g1,g2⟩:=SG az Uh Vl Vm
            have dR:(getObj p.bd).run P w=.ok (.map a c) w:=by simp only [getObj,Sem.run,a8]
            have hO:=run_checkKey (P:=P) ax ke a.isEmpty K
            have ya:=run_findKey ke g1
            cases r with
            | none=>
              simp only at g2
              subst g2
              refine ⟨if ok=true then .tuple #[qi,.bool false] else qi,?_,?_⟩
              · simp only [Instr.lookup,Sem.run_bind,hu,Result.andThen_ok,Sem.run_pure,dR]
                rw [hO,Result.andThen_ok,ya,Result.andThen_ok]
                simp only [Sem.run_bind,ki,Result.andThen_ok,Sem.run_pure]
              · cases ok
                · exact jM
                · simp only [cond_true,if_true,Rel,aZ];exact ⟨_,rfl,_,_,rfl,jM,_,_,rfl,rfl,rfl⟩
            | some u=>
              simp only at g2
              obtain ⟨j,Y,rfl,ej⟩:=g2
              refine ⟨if ok=true then .tuple #[Y,.bool true] else Y,?_,?_⟩
              · simp only [Instr.lookup,Sem.run_bind,hu,Result.andThen_ok,Sem.run_pure,dR]
                rw [hO,Result.andThen_ok,ya,Result.andThen_ok]
                simp only [Sem.run_bind,Sem.run_pure,Result.andThen_ok]
              · cases ok
                · exact ej
                · simp only [cond_true,if_true,Rel,aZ];exact ⟨_,rfl,_,_,rfl,ej,_,_,rfl,rfl,rfl⟩
           simp only [nv] at he
           cases hm:oH h x with
           | none=>rw [hm] at he;cases he
           | some es=>
             rw [hm] at he
             simp only at he
             cases q6:jB (iG fT.a_) k es with
             | none=>rw [q6] at he;cases he
             | some r=>
               rw [q6] at he
               simp only at he
               have main:∀(l:List MapEntry),df E es l→∃R,(Instr.findKey b1 K l).run P w=.ok R w∧
                ((R=none∧Rel E v (if ok=true then .tuple #[qi,.bool false] else qi))∨∃j Y,R=some (j,Y)∧Rel E v (if ok=true then .tuple #[Y,.bool true] else Y)):=by
                intro l aj
                obtain ⟨R,g1,g2⟩:=H4 az es l r 0 q6 aj
                refine ⟨R,run_findKey ke g1,?_⟩
                cases r with
                | none=>
                  simp only at g2 he
                  refine .inl ⟨g2,?_⟩
                  simp only [Option.some.injEq] at he
                  subst he
                  cases ok
                  · exact jM
                  · simp only [cond_true,if_true,Rel,aZ];exact ⟨_,rfl,_,_,rfl,jM,_,_,rfl,rfl,rfl⟩
                | some u=>
                  simp only at g2 he
                  obtain ⟨j,Y,cn,ej⟩:=g2
                  refine .inr ⟨j,Y,cn,?_⟩
                  simp only [Option.some.injEq] at he
                  subst he
                  cases ok
                  · exact ej
                  · simp only [cond_true,if_true,Rel,aZ];exact ⟨_,rfl,_,_,rfl,ej,_,_,rfl,rfl,rfl⟩
               rcases Ek (P:=P) s hm ao with ⟨rfl,rfl⟩ | ⟨bx,a,clock,rfl,dR,rj⟩
               · obtain ⟨R,g1,g2⟩:=main [] rfl
                 have hO:=run_checkKey (P:=P) ax ke true K
                 rcases g2 with ⟨rfl,g3⟩ | ⟨j,Y,rfl,g3⟩
                 all_goals
                  refine ⟨_,?_,g3⟩
                  simp only [Instr.lookup,Sem.run_bind,hu,Result.andThen_ok,Sem.run_pure]
                  have aF:(#[]:Array MapEntry).isEmpty=true:=rfl
                  rw [aF,hO,Result.andThen_ok,g1,Result.andThen_ok]
                  simp only [Sem.run_bind,ki,Result.andThen_ok,Sem.run_pure]
               · obtain ⟨R,g1,g2⟩:=main a.toList rj
                 have hO:=run_checkKey (P:=P) ax ke a.isEmpty K
                 rcases g2 with ⟨rfl,g3⟩ | ⟨j,Y,rfl,g3⟩
                 all_goals
                  refine ⟨_,?_,g3⟩
                  simp only [Instr.lookup,Sem.run_bind,hu,Result.andThen_ok,Sem.run_pure,dR]
                  rw [hO,Result.andThen_ok,g1,Result.andThen_ok]
                  simp only [Sem.run_bind,ki,Result.andThen_ok,Sem.run_pure]
theorem MF {au:Fr} {E:Env} {h aa:ae} {w:World} (s:aW au E h w) {t:TypeId} {x k v:V} {X K Y:Value} (ao:Rel E x X) (az:Rel E k K) (bw:Rel E v Y) (he:(lO P t).run h x k v=some aa):
 ∃ak,(Instr.mapUpdate t X K Y).run P w=.ok () ak∧aW au E aa ak:=by
 unfold lO at he
 cases aB:aX P t with
 | none=>rw [aB] at he;cases he
 | some aL=>
   rw [aB] at he
   simp only at he
   have hu:=ez aB w
   cases bC:aL.a_<;>rw [bC] at he<;>simp only at he<;>try (cases he;done)
   rename_i b1 h3
   rw [bC] at hu
   cases kM:aX P b1 with
   | none=>rw [kM] at he;cases he
   | some fT=>
     rw [kM] at he
     simp only at he
     cases ax:kS fT.a_ with
     | false=>
       rw [ax] at he
       simp only [cond_false] at he
       have py:∃e,ur P w E b1 e K∧nE e h x k v=some aa:=by
        cases mo:jT P b1 with
        | true=>
          rw [mo] at he
          exact ⟨_,A2 s mo K,he⟩
        | false=>
          rw [mo] at he
          simp only [cond_false] at he
          cases cb:oZ P b1 with
          | false=>rw [cb] at he;cases he
          | true=>
            rw [cb] at he
            simp only [cond_true] at he
            obtain ⟨aD,he⟩:=dG he
            exact ⟨_,A3 cb aD az,he⟩
       clear he
       obtain ⟨e,ask,he⟩:=py
       cases x<;>simp only [nE] at he<;>try (cases he;done)
       rename_i b
       simp only [Rel] at ao
       obtain ⟨p,ag,rfl⟩:=ao
       have af:=s.at ag
       cases aD:h.get b<;>rw [aD] at he<;>simp only [bS.iM] at he<;>try (cases he;done)
       rename_i es clock
       rw [aD] at af
       obtain ⟨q,a,U,cS,aI,bq⟩:=af
       rw [ag] at U;cases U
       cases rn:kv e k v clock es with
       | none=>rw [rn] at he;cases he
       | some r=>
         rw [rn] at he
         simp only [Option.some.injEq] at he
         subst he
         have dR:(getObj p.bd).run P w=.ok (.map a clock) w:=by simp only [getObj,Sem.run,aI]
         have hO:=ask.check false
         have i':=(Array.getElem?_eq_some_iff.1 aI).1
         have u3:∀(bf:Array MapEntry) (fB:Nat),df E r.1 bf.toList→fB=(bif r.2 then clock+1 else clock)→
          ∃ak,(setObj p.bd (.map bf fB)).run P w=.ok () ak∧aW au E (h.set b (.mp r.1 (bif r.2 then clock+1 else clock))) ak:=by
          intro bf fB hm aq
          refine ⟨{w with heap:=w.heap.setIfInBounds p.bd (.map bf fB)},by simp only [setObj,Sem.run,aI],s.set (p:=p) (by rw [aD];rfl) ag cS (by simp) (fun j bG=>?_) rfl rfl rfl (fun _ _ _ e=>by cases e) ?_⟩
          · simp only [Array.getElem?_setIfInBounds]
            rw [if_neg (fun e=>bG e.symm)]
          · exact ⟨p,bf,ag,cS,by simp [i',aq],hm⟩
         obtain ⟨g1,g2⟩:=Ls ask.eq az bw clock es a.toList r 0 rn bq
         cases ja:r.2 with
         | true=>
           obtain ⟨bN,a2⟩:=g1 ja
           obtain ⟨ak,d1,d2⟩:=u3 (a.push ⟨K,Y,clock⟩) (clock+1) (by simpa using a2) (by rw [ja];rfl)
           rw [ja] at d2
           refine ⟨ak,?_,d2⟩
           simp only [Instr.mapUpdate,Sem.run_bind,hu,Result.andThen_ok,dR,hO,ask.find bN,d1]
         | false=>
           obtain ⟨j,di,Nt,bN,a2,a3,a4⟩:=g2 ja
           obtain ⟨ak,d1,d2⟩:=u3 (a.modify j fun di=>{di with key:=K,val:=Y}) clock (by simpa using a4) (by rw [ja];rfl)
           rw [ja] at d2
           refine ⟨ak,?_,d2⟩
           rw [Nat.zero_add] at bN
           have aF:a[j]? =some di:=by simpa using a2
           simp only [Instr.mapUpdate,Sem.run_bind,hu,Result.andThen_ok,dR,hO,ask.find bN,aF,Option.map,Option.getD,Instr.keyThatStays,a3,if_true,Sem.run_pure,d1]
     | true=>
       rw [ax] at he
       simp only [cond_true] at he
       have ke:=ez kM w
       cases x<;>simp only [nE] at he<;>try (cases he;done)
       rename_i b
       simp only [Rel] at ao
       obtain ⟨p,ag,rfl⟩:=ao
       have af:=s.at ag
       cases aD:h.get b<;>rw [aD] at he<;>simp only [bS.iM] at he<;>try (cases he;done)
       rename_i es clock
       rw [aD] at af
       obtain ⟨q,a,U,cS,aI,bq⟩:=af
       rw [ag] at U;cases U
       cases rn:kv (iG fT.a_) k v clock es with
       | none=>rw [rn] at he;cases he
       | some r=>
         rw [rn] at he
         simp only [Option.some.injEq] at he
         subst he
         have dR:(getObj p.bd).run P w=.ok (.map a clock) w:=by simp only [getObj,Sem.run,aI]
         have hO:=run_checkKey (P:=P) ax ke false K
         have i':=(Array.getElem?_eq_some_iff.1 aI).1
         have done:∀(bf:Array MapEntry) (fB:Nat),df E r.1 bf.toList→fB=(bif r.2 then clock+1 else clock)→
          ∃ak,(setObj p.bd (.map bf fB)).run P w=.ok () ak∧aW au E (h.set b (.mp r.1 (bif r.2 then clock+1 else clock))) ak:=by
          intro bf fB hm aq
          refine ⟨{w with heap:=w.heap.setIfInBounds p.bd (.map bf fB)},by simp only [setObj,Sem.run,aI],s.set (p:=p) (by rw [aD];rfl) ag cS (by simp) (fun j bG=>?_) rfl rfl rfl (fun _ _ _ e=>by cases e) ?_⟩
          · simp only [Array.getElem?_setIfInBounds]
            rw [if_neg (fun e=>bG e.symm)]
          · exact ⟨p,bf,ag,cS,by simp [i',aq],hm⟩
         obtain ⟨g1,g2⟩:=Lw az bw clock es a.toList r 0 rn bq
         cases ja:r.2 with
         | true=>
           obtain ⟨bN,a2⟩:=g1 ja
           obtain ⟨ak,d1,d2⟩:=done (a.push ⟨K,Y,clock⟩) (clock+1) (by simpa using a2) (by rw [ja];rfl)
           rw [ja] at d2
           refine ⟨ak,?_,d2⟩
           simp only [Instr.mapUpdate,Sem.run_bind,hu,Result.andThen_ok,dR,hO,run_findKey ke bN,d1]
         | false=>
           obtain ⟨j,e,Nt,bN,a2,a3,a4⟩:=g2 ja
           obtain ⟨ak,d1,d2⟩:=done (a.modify j fun e=>{e with key:=K,val:=Y}) clock (by simpa using a4) (by rw [ja];rfl)
           rw [ja] at d2
           refine ⟨ak,?_,d2⟩
           rw [Nat.zero_add] at bN
           have aF:a[j]? =some e:=by simpa using a2
           simp only [Instr.mapUpdate,Sem.run_bind,hu,Result.andThen_ok,dR,hO,run_findKey ke bN,aF,Option.map,Option.getD,Instr.keyThatStays,a3,if_true,Sem.run_pure,d1]
theorem KF {au:Fr} {E:Env} {h aa:ae} {w:World} (s:aW au E h w) {v:V} (he:tH h=.val v aa):cC au P E w (do pure (.map (some (←newObj (.map #[] 0))))) v aa:=by
 unfold tH at he
 simp only [aT.val.injEq] at he
 obtain ⟨rfl,rfl⟩:=he
 have cU:=s.fresh h.next (Nat.le_refl _)
 have db:E.put (aG h.next) ⟨w.heap.size,0,0⟩ (aG h.next)=some ⟨w.heap.size,0,0⟩:=by unfold Env.put;rw [if_pos rfl]
 refine ⟨.map (some w.heap.size),{w with heap:=w.heap.push (.map #[] 0)},_,?_,Env.jj (p:=⟨w.heap.size,0,0⟩) cU,?_,s.alloc 0 ?_⟩
 · simp only [Sem.run_bind,run_newObj,Result.andThen_ok,Sem.run_pure]
 · simp only [Rel];exact ⟨_,db,rfl⟩
 · exact ⟨_,#[],db,s.frame.size,by simp,rfl⟩
theorem YH {au:Fr} {E:Env} {h aa:ae} {w:World} (s:aW au E h w) {t:TypeId} {x:Option V} {X:Option Value} {v:V} (ao:gd E x X) (he:tB P t x h=.val v aa):cC au P E w (Instr.makeMap t X) v aa:=by
 unfold tB at he
 cases aB:aX P t with
 | none=>rw [aB] at he;cases he
 | some aL=>
   rw [aB] at he
   simp only at he
   have hu:=ez aB
   cases af:Nat.beq (dW aL.a_) 3 with
   | false=>rw [af] at he;cases he
   | true=>
     rw [af] at he
     simp only [cond_true] at he
     cases x with
     | none=>
       have:X=none:=by cases X with | none=>rfl | some _=>simp [gd] at ao
       subst this
       simp only [rJ] at he
       have:=KF (P:=P) s he
       exact this
     | some u=>
       simp only [rJ] at he
       obtain ⟨cc,n,rfl,U⟩:=wm he
       obtain ⟨Y,rfl,ej⟩:∃Y,X=some Y∧Rel E (.int cc n) Y:=by
        cases X with
        | none=>simp [gd] at ao
        | some Y=>simp only [gd] at ao;obtain ⟨acS,U,ad⟩:=ao;cases U;exact ⟨_,rfl,ad⟩
       have:=ej.hh;subst this
       obtain ⟨Z,ak,ar,ai,ay⟩:=KF (P:=P) s U
       refine ⟨Z,ak,ar,?_,ay⟩
       cases bC:aL.a_<;>rw [bC] at af<;>simp [dW] at af
       have hu:=hu w
       rw [bC] at hu
       simp only [Instr.makeMap,Sem.run_bind,hu,Result.andThen_ok,asInt,Sem.run_pure]
       exact ai
theorem Yh {au:Fr} {E:Env} {h aa:ae} {w:World} (s:aW au E h w) {t:TypeId} {aL:kF} (aB:aX P t=some aL) (hm:pO aL.a_=true) {x v:V} {X:Value} (ao:Rel E x X) (ty:TypeId) (rest:List TypeId)
 (he:vY [x] h=.val v aa):cC au P E w (Builtin.len_ (t::rest).toArray ty #[X]) v aa:=by
 simp only [vY] at he
 cases aR:oH h x with
 | none=>rw [aR] at he;cases he
 | some es=>
   rw [aR] at he
   simp only [aT.val.injEq] at he
   obtain ⟨rfl,rfl⟩:=he
   have hu:=ez aB w
   cases bC:aL.a_<;>rw [bC] at hm<;>simp [pO] at hm
   rw [bC] at hu
   rcases Ek (P:=P) s aR ao with ⟨rfl,rfl⟩ | ⟨bx,a,clock,rfl,dR,rj⟩
   · refine cC.plain (Z:=goInt 0) s ?_ (by simp [Rel,goInt])
     simp [Builtin.len_,hu]
   · have hlen:∀(ms:List bW) (l:List MapEntry),df E ms l→l.length=ms.length:=by
      intro ms
      induction ms with
      | nil=>intro l h;simp only [df] at h;subst h;rfl
      | cons m ms bh=>intro l h;obtain ⟨e,es,rfl,_,_,_,bq⟩:=h;simp [bh _ bq]
     refine cC.plain (Z:=goInt a.size) s ?_ ?_
     · simp [Builtin.len_,hu,dR]
     · have:=hlen _ _ rj
       simp only [Array.length_toList] at this
       simp [Rel,goInt,this]
end
end Go.Proofs.YtkehcalakofigaaGreatDoor.aY
namespace Go.Proofs.YtkehcalakofigaaGreatDoor.aY
variable [Lay]
open Go Go.RowKit
section
variable {P:Program}
theorem HX {E:Env} {v:V} {Y:Value} (bw:Rel E v Y) {n:Nat}:∀(es:List bW) (l:List MapEntry) (r:List bW),sO n v es=some r→df E es l→
 ∃j,l.findIdx? (fun e=>(e.born:Int) == (n:Int))=some j∧df E r (l.modify j fun e=>{e with val:=Y})
 | [],l,r,h,aH=>by cases h
 | m::ms,l,r,h,aH=>by
   obtain ⟨e,es,rfl,U,ad,aI,bq⟩:=aH
   simp only [sO] at h
   cases af:Nat.beq m.born n with
   | true=>
     rw [af] at h
     simp only [cond_true,Option.some.injEq] at h
     subst h
     have a7:=Nat.eq_of_beq_eq_true af
     refine ⟨0,by simp [List.findIdx?_cons,aI,a7],?_⟩
     exact ⟨_,es,rfl,U,bw,aI,bq⟩
   | false=>
     rw [af] at h
     simp only [cond_false] at h
     cases ax:sO n v ms with
     | none=>rw [ax] at h;cases h
     | some bo=>
       rw [ax] at h
       simp only [Option.some.injEq] at h
       subst h
       obtain ⟨j,g1,g2⟩:=HX bw ms es bo ax bq
       have c2:¬((e.born:Int) == (n:Int))=true:=by
        rw [aI]
        intro aE
        have tf:(m.born:Int)=(n:Int):=by simpa using aE
        have U1:m.born=n:=by omega
        rw [U1,Nat.beq_refl] at af
        cases af
       refine ⟨j+1,by simp only [List.findIdx?_cons,c2];simp [g1],⟨e,_,by simp [List.modify],U,ad,aI,g2⟩⟩
theorem Sd {au:Fr} {E:Env} {h aa:ae} {w:World} (s:aW au E h w) {t:TypeId} {x st v:V} {X S Y:Value} (ao:Rel E x X) (cb:Rel E st S) (bw:Rel E v Y) (he:xU h x st v=some aa):
 ∃ak,(Instr.entryStore t X S Y).run P w=.ok () ak∧aW au E aa ak:=by
 unfold xU at he
 split at he
 case h_2=>cases he
 rename_i b
 split at he
 case h_2=>cases he
 rename_i cc m
 split at he
 case h_2=>cases he
 rename_i n
 simp only [Rel] at ao cb
 obtain ⟨p,ag,rfl⟩:=ao
 subst cb
 have af:=s.at ag
 cases aD:h.get b<;>rw [aD] at he<;>simp only [bS.iM] at he<;>try (cases he;done)
 rename_i es clock
 rw [aD] at af
 obtain ⟨q,a,U,cS,aI,bq⟩:=af
 rw [ag] at U;cases U
 cases ax:sO n v es with
 | none=>rw [ax] at he;cases he
 | some r=>
   rw [ax] at he
   simp only [Option.some.injEq] at he
   subst he
   obtain ⟨j,g1,g2⟩:=HX bw es a.toList r ax bq
   have dR:(getObj p.bd).run P w=.ok (.map a clock) w:=by simp only [getObj,Sem.run,aI]
   have i':=(Array.getElem?_eq_some_iff.1 aI).1
   have ya:a.findIdx? (fun e=>(e.born:Int) == (n:Int))=some j:=by
    rw [←g1]
    cases a with | mk ady=>simp
   have bm:(asInt (.int cc (Int.ofNat n))).run P w=.ok (n:Int) w:=by simp [asInt,asIntOf]
   refine ⟨{w with heap:=w.heap.setIfInBounds p.bd (.map (a.modify j fun e=>{e with val:=Y}) clock)},?_,s.set (p:=p) (by rw [aD];rfl) ag cS (by simp) (fun j bG=>?_) rfl rfl rfl (fun _ _ _ e=>by cases e) ?_⟩
   · simp only [Instr.entryStore,Sem.run_bind,dR,Result.andThen_ok,bm,ya,setObj,Sem.run,aI]
   · simp only [Array.getElem?_setIfInBounds]
     rw [if_neg (fun e=>bG e.symm)]
   · exact ⟨p,a.modify j fun e=>{e with val:=Y},ag,cS,by simp [i'],by rw [Array.toList_modify];exact g2⟩
theorem HZ {w:World} {E:Env} {b1:TypeId} {e:c1} (jC:sk P w E b1 e) {k:V} {K:Value} (az:Rel E k K):∀(es:List bW) (l:List MapEntry) (r:Option bW) (i:Nat),sP e k es=some r→df E es l→
 (r=none→(Instr.findAsking b1 K l i).run P w=.ok none w)∧
 (∀m,r=some m→∃j di,(Instr.findAsking b1 K l i).run P w=.ok (some (i+j,di.val)) w∧l[j]? =some di∧di.key=K∧Rel E m.v di.val∧di.born=m.born∧Instr.sameBits 10000 K K=true∧df E es (l.modify j fun di=>{di with key:=K}))
 | [],l,r,i,h,aH=>by
   simp only [df] at aH
   subst aH
   simp only [sP,Option.some.injEq] at h
   subst h
   exact ⟨fun _=>rfl,fun m hm=>by cases hm⟩
 | m::ms,l,r,i,h,aH=>by
   obtain ⟨di,es,rfl,U,ad,aI,bq⟩:=aH
   simp only [sP] at h
   cases aR:e.run k m.k with
   | none=>rw [aR] at h;cases h
   | some b=>
     rw [aR] at h
     simp only at h
     obtain ⟨ai,ay⟩:=jC _ _ _ _ _ aR az U
     cases b with
     | true=>
       simp only [cond_true,Option.some.injEq] at h
       subst h
       obtain ⟨aK,bE⟩:=ay rfl
       refine ⟨fun h=>(by cases h),fun cI hm=>?_⟩
       cases hm
       exact ⟨0,di,by simp [Instr.findAsking,ai],rfl,aK,ad,aI,bE,⟨_,es,rfl,by rw [←aK];exact U,ad,aI,bq⟩⟩
     | false=>
       simp only [cond_false] at h
       obtain ⟨g1,g2⟩:=HZ jC az ms es r (i+1) h bq
       refine ⟨fun h=>by simp [Instr.findAsking,ai,g1 h],fun cI hm=>?_⟩
       obtain ⟨j,Sc,bN,a2,a3,a4,a5,iU,AW⟩:=g2 cI hm
       exact ⟨j+1,Sc,by simp [Instr.findAsking,ai,bN];omega,by simpa using a2,a3,a4,a5,iU,⟨di,_,rfl,U,ad,aI,AW⟩⟩
theorem Ku {au:Fr} {E:Env} {h aa:ae} {w:World} (s:aW au E h w) {t b1 h3:TypeId} (hu:(underlying t).run P w=.ok (.map b1 h3) w) {e:c1} {z:V} {Z:Value} (bn:(zeroValue h3).run P w=.ok Z w) (jM:Rel E z Z)
 {x k v:V} {X K:Value} (ao:Rel E x X) (az:Rel E k K) (ask:ur P w E b1 e K) (he:tD e z h x k=some (v,aa)):cC au P E w (Instr.mapEntry t X K) v aa:=by
 unfold tD at he
 split at he
 case h_2=>cases he
 rename_i b
 simp only [Rel] at ao
 obtain ⟨p,ag,rfl⟩:=ao
 have af:=s.at ag
 cases aD:h.get b<;>rw [aD] at he<;>simp only [bS.iM] at he<;>try (cases he;done)
 rename_i es clock
 rw [aD] at af
 obtain ⟨q,a,U,cS,aI,bq⟩:=af
 rw [ag] at U;cases U
 have dR:(getObj p.bd).run P w=.ok (.map a clock) w:=by simp only [getObj,Sem.run,aI]
 have hO:=ask.check false
 have i':=(Array.getElem?_eq_some_iff.1 aI).1
 have u3:∀(l5:List bW) (bf:Array MapEntry) (fB:Nat),df E l5 bf.toList→
  ∃ak,(setObj p.bd (.map bf fB)).run P w=.ok () ak∧aW au E (h.set b (.mp l5 fB)) ak:=by
  intro l5 bf fB hm
  refine ⟨{w with heap:=w.heap.setIfInBounds p.bd (.map bf fB)},by simp only [setObj,Sem.run,aI],s.set (p:=p) (by rw [aD];rfl) ag cS (by simp) (fun j bG=>?_) rfl rfl rfl (fun _ _ _ e=>by cases e) ?_⟩
  · simp only [Array.getElem?_setIfInBounds]
    rw [if_neg (fun e=>bG e.symm)]
  · exact ⟨p,bf,ag,cS,by simp [i'],hm⟩
 cases ax:sP e k es with
 | none=>rw [ax] at he;cases he
 | some r=>
   rw [ax] at he
   simp only at he
   obtain ⟨g1,g2⟩:=HZ ask.eq az es a.toList r 0 ax bq
   cases r with
   | none=>
     simp only [Option.some.injEq,Prod.mk.injEq] at he
     obtain ⟨rfl,rfl⟩:=he
     have bN:=ask.find (g1 rfl)
     obtain ⟨ak,d1,d2⟩:=u3 (es++[⟨k,z,clock⟩]) (a.push ⟨K,Z,clock⟩) (clock+1) (by
      have:∀(es:List bW) (l:List MapEntry),df E es l→df E (es++[⟨k,z,clock⟩]) (l++[⟨K,Z,clock⟩]):=by
       intro es
       induction es with
       | nil=>intro l aj;simp only [df] at aj;subst aj;exact ⟨_,_,rfl,az,jM,rfl,rfl⟩
       | cons m ms bh=>intro l aj;obtain ⟨di,l5,rfl,bJ,cg,h0,j4⟩:=aj;exact ⟨di,_,rfl,bJ,cg,h0,bh _ j4⟩
      simpa using this es a.toList bq)
     refine ⟨.tuple #[Z,goInt clock],ak,E,?_,Env.le.refl E,?_,d2⟩
     · simp only [Instr.mapEntry,Sem.run_bind,hu,Result.andThen_ok,dR,hO,bN,bn,d1,Sem.run_pure]
     · simp only [Rel,aZ];exact ⟨_,rfl,_,_,rfl,jM,_,_,rfl,rfl,rfl⟩
   | some m=>
     simp only [Option.some.injEq,Prod.mk.injEq] at he
     obtain ⟨rfl,rfl⟩:=he
     obtain ⟨j,di,bN,a2,a3,a4,a5,iU,AW⟩:=g2 m rfl
     rw [Nat.zero_add] at bN
     have bJ:=ask.find bN
     have aF:a[j]? =some di:=by simpa using a2
     obtain ⟨ak,d1,d2⟩:=u3 es (a.modify j fun di=>{di with key:=K}) clock (by rw [Array.toList_modify];exact AW)
     refine ⟨.tuple #[di.val,goInt di.born],ak,E,?_,Env.le.refl E,?_,d2⟩
     · simp only [Instr.mapEntry,Sem.run_bind,hu,Result.andThen_ok,dR,hO,bJ,aF,Option.map,Option.getD,a3,Instr.keyThatStays,iU,if_true,Sem.run_pure,d1]
     · simp only [Rel,aZ];exact ⟨_,rfl,_,_,rfl,a4,_,_,rfl,by rw [a5];rfl,rfl⟩
theorem YK {au:Fr} {E:Env} {h aa:ae} {w:World} (s:aW au E h w) {t:TypeId} {x k v:V} {X K:Value} (ao:Rel E x X) (az:Rel E k K) (he:(Ej P t).run x k h=.val v aa):cC au P E w (Instr.mapEntry t X K) v aa:=by
 unfold Ej at he
 cases aB:aX P t with
 | none=>rw [aB] at he;cases he
 | some aL=>
   rw [aB] at he
   simp only at he
   have hu:=ez aB w
   cases bC:aL.a_<;>rw [bC] at he<;>simp only at he<;>try (cases he;done)
   rename_i b1 h3
   rw [bC] at hu
   cases het:aX P h3 with
   | none=>rw [het] at he;cases he
   | some bb=>
     rw [het] at he
     simp only at he
     cases bn:bb.zero with
     | none=>rw [bn] at he;cases he
     | some z=>
       rw [bn] at he
       simp only at he
       obtain ⟨qi,ki,jM,_⟩:=ub (P:=P) het bn E w
       cases mo:jT P b1 with
       | true=>
         rw [mo] at he
         simp only [cond_true,HK] at he
         cases hm:tD ⟨lJ h⟩ z h x k with
         | none=>rw [hm] at he;cases he
         | some r=>
           rw [hm] at he
           simp only [aT.val.injEq] at he
           obtain ⟨rfl,rfl⟩:=he
           exact Ku s hu ki jM ao az (A2 s mo K) hm
       | false=>
         rw [mo] at he
         simp only [cond_false] at he
         cases cb:oZ P b1 with
         | false=>rw [cb] at he;cases he
         | true=>
           rw [cb] at he
           simp only [cond_true,HL] at he
           cases aD:rF P b1 k with
           | false=>rw [aD] at he;cases he
           | true=>
             rw [aD] at he
             simp only [cond_true] at he
             cases hm:tD (structEq P b1) z h x k with
             | none=>rw [hm] at he;cases he
             | some r=>
               rw [hm] at he
               simp only [aT.val.injEq] at he
               obtain ⟨rfl,rfl⟩:=he
               exact Ku s hu ki jM ao az (A3 cb aD az) hm
end
end Go.Proofs.YtkehcalakofigaaGreatDoor.aY
namespace Go.Proofs.YtkehcalakofigaaGreatDoor.aY
variable [Lay]
open Go Go.RowKit
section
variable {P:Program}
theorem IC (n:Nat):∀(l:List Nat),px l n=true↔n ∈ l
 | []=>by simp [px]
 | x::xs=>by
   simp only [px]
   cases af:Nat.beq x n with
   | true=>have:=Nat.eq_of_beq_eq_true af;subst this;simp
   | false=>
     have c2:x≠n:=fun e=>by subst e;rw [Nat.beq_refl] at af;cases af
     simp [IC n xs,Ne.symm c2]
theorem TP {a:Array Nat} {seen:List Nat} (h:a.toList=seen.reverse) (n:Nat):a.contains n=px seen n:=by
 rw [Bool.eq_iff_iff,IC,Array.contains_iff_mem,←Array.mem_toList_iff,h,List.mem_reverse]
theorem Kd {E:Env} {a:Array Nat} {seen:List Nat} (h:a.toList=seen.reverse):∀(ms:List bW) (l:List MapEntry),df E ms l→df E (leftOf seen ms) (l.filter fun e=>!a.contains e.born)
 | [],l,aH=>by simp only [df] at aH;subst aH;rfl
 | m::ms,l,aH=>by
   obtain ⟨e,es,rfl,U,ad,aI,bq⟩:=aH
   have bh:=Kd h ms es bq
   have aE:a.contains e.born=px seen m.born:=by rw [TP h,aI]
   cases af:px seen m.born with
   | true=>
     rw [af] at aE
     rw [List.filter_cons_of_neg (by rw [aE];decide)]
     simp only [leftOf,af,cond_true]
     exact bh
   | false=>
     rw [af] at aE
     rw [List.filter_cons_of_pos (by rw [aE];decide)]
     simp only [leftOf,af,cond_false]
     exact ⟨e,_,rfl,U,ad,aI,bh⟩
theorem Gi {E:Env} {last:Nat}:∀(ms:List bW) (l:List MapEntry),df E ms l→l.all (fun e=>decide (e.born≥last))=sq last ms
 | [],l,aH=>by simp only [df] at aH;subst aH;rfl
 | m::ms,l,aH=>by
   obtain ⟨e,es,rfl,U,ad,aI,bq⟩:=aH
   simp only [sq,List.all_cons,Gi ms es bq,aI]
   cases af:Nat.ble last m.born with
   | true=>rw [Nat.ble_eq] at af;simp [af]
   | false=>
     have:¬last≤m.born:=by rw [←Nat.ble_eq,af];simp
     simp [this]
theorem GI {E:Env} {n:Nat}:∀(ms:List bW) (l:List MapEntry) (m:bW),df E ms l→uS n ms=some m→∃e,l.find? (fun e=>e.born == n)=some e∧Rel E m.k e.key∧Rel E m.v e.val
 | [],l,m,aH,h=>by cases h
 | x::xs,l,m,aH,h=>by
   obtain ⟨e,es,rfl,U,ad,aI,bq⟩:=aH
   simp only [uS] at h
   cases af:Nat.beq x.born n with
   | true=>
     rw [af] at h
     simp only [cond_true,Option.some.injEq] at h
     subst h
     have:=Nat.eq_of_beq_eq_true af
     exact ⟨e,by simp [List.find?_cons,aI,this],U,ad⟩
   | false=>
     rw [af] at h
     simp only [cond_false] at h
     obtain ⟨cN,g1,g2⟩:=GI xs es m bq h
     have c2:x.born≠n:=fun e=>by rw [e,Nat.beq_refl] at af;cases af
     exact ⟨cN,by simp [List.find?_cons,aI,c2,g1],g2⟩
theorem EJ {k:bS} {f:List bW→Nat→aT} {v:V} {aa:ae} (h:k.iM .fail f=.val v aa):∃es clock,k=.mp es clock∧f es clock=.val v aa:=by
 cases k<;>simp only [bS.iM] at h<;>first
  | (cases h;done)
  | exact ⟨_,_,rfl,h⟩
theorem KY {v:V} {f:aN→Nat→aT} {r:V} {aa:ae} (h:v.hl .fail f=.val r aa):∃b off,v=.ptr b off∧f b off=.val r aa:=by
 cases v<;>simp only [V.hl] at h<;>first
  | (cases h;done)
  | exact ⟨_,_,rfl,h⟩
theorem aal {au:Fr} {E:Env} {h aa:ae} {w:World} (s:aW au E h w) {t b1 h3:TypeId} (hu:(underlying t).run P w=.ok (.map b1 h3) w) {x v:V} {X:Value} (ao:Rel E x X) (he:rangeMap x h=.val v aa):cC au P E w (Instr.range t X) v aa:=by
 have cU:=s.fresh h.next (Nat.le_refl _)
 have db:E.put (aG h.next) ⟨w.heap.size,0,0⟩ (aG h.next)=some ⟨w.heap.size,0,0⟩:=by unfold Env.put;rw [if_pos rfl]
 unfold rangeMap at he
 split at he
 · simp only [aT.val.injEq] at he
   obtain ⟨rfl,rfl⟩:=he
   simp only [Rel] at ao
   subst ao
   refine ⟨.pointer (some ⟨w.heap.size,0,none⟩),{w with heap:=w.heap.push (.mapIter none 0 #[] 0)},_,?_,Env.jj (p:=⟨w.heap.size,0,0⟩) cU,?_,s.alloc 0 ?_⟩
   · simp only [Instr.range,Sem.run_bind,hu,Result.andThen_ok,Sem.run_pure,run_newObj]
   · simp only [Rel];exact ⟨_,db,by simp⟩
   · exact ⟨_,none,#[],db,s.frame.size,rfl,by simp,rfl,rfl⟩
 · rename_i c
   obtain ⟨es,clock,aD,he⟩:=EJ he
   simp only [aT.val.injEq] at he
   obtain ⟨rfl,rfl⟩:=he
   simp only [Rel] at ao
   obtain ⟨p,ag,rfl⟩:=ao
   have af:=s.at ag
   rw [aD] at af
   obtain ⟨q,a,U,cS,aI,bq⟩:=af
   rw [ag] at U;cases U
   have dR:(getObj p.bd).run P w=.ok (.map a clock) w:=by simp only [getObj,Sem.run,aI]
   have hle:E.le (E.put (aG h.next) ⟨w.heap.size,0,0⟩):=Env.jj cU
   refine ⟨.pointer (some ⟨w.heap.size,0,none⟩),{w with heap:=w.heap.push (.mapIter (some p.bd) clock #[] clock)},_,?_,hle,?_,s.alloc 0 ?_⟩
   · simp only [Instr.range,Sem.run_bind,hu,Result.andThen_ok,Sem.run_pure,dR,run_newObj]
   · simp only [Rel];exact ⟨_,db,by simp⟩
   · exact ⟨_,some p.bd,#[],db,s.frame.size,rfl,by simp,rfl,p,hle _ _ ag,rfl⟩
 · cases he
theorem YZ {au:Fr} {E:Env} {h aa:ae} {w:World} (s:aW au E h w) {x v:V} {X:Value} {ty:TypeId} (ao:Rel E x X) (he:fy x h=.val v aa):cC au P E w (Instr.next X false ty) v aa:=by
 unfold fy at he
 obtain ⟨b,off,rfl,U⟩:=KY he
 clear he
 have af:=s.at (p:=_) (by simp only [Rel] at ao;exact ao.choose_spec.1)
 cases aD:h.get b<;>rw [aD] at U<;>simp only at U<;>try (cases U;done)
 rename_i src since seen last
 rw [aD] at af
 cases a6:Nat.beq off 0 with
 | false=>rw [a6] at U;cases U
 | true=>
 rw [a6] at U
 simp only [cond_true] at U
 have a6:=Nat.eq_of_beq_eq_true a6
 subst a6
 obtain ⟨p,m,a,ag,cS,kK,a8,bm,hB⟩:=af
 simp only [Rel] at ao
 obtain ⟨q,aE,rfl⟩:=ao
 rw [ag] at aE;cases aE
 have dR:(getObj p.bd).run P w=.ok (.mapIter m since a last) w:=by simp only [getObj,Sem.run,a8]
 have over:Rel E (.tuple [.bool false]) (.tuple #[.bool false]):=by simp only [Rel,aZ];exact ⟨_,rfl,_,_,rfl,rfl,rfl⟩
 cases src with
 | none=>
   simp only [qA] at hB
   subst hB
   simp only [aT.val.injEq] at U
   obtain ⟨rfl,rfl⟩:=U
   refine cC.plain (Z:=.tuple #[.bool false]) s ?_ over
   simp only [Instr.next,kK,Sem.run_bind,dR,Result.andThen_ok,Sem.run_pure]
 | some c=>
   simp only [qA] at hB
   obtain ⟨tR,mn,rfl⟩:=hB
   simp only at U
   obtain ⟨es,clock,C9,U⟩:=EJ U
   have pz:=s.at mn
   rw [C9] at pz
   obtain ⟨q,kp,g1,_,g3,g4⟩:=pz
   rw [mn] at g1;cases g1
   have ys:(getObj tR.bd).run P w=.ok (.map kp clock) w:=by simp only [getObj,Sem.run,g3]
   cases aq:(!seen.isEmpty&&(!es.isEmpty&&sq last es)) with
   | true=>rw [aq] at U;cases U
   | false=>
     rw [aq] at U
     simp only [cond_false] at U
     have aF:a.isEmpty=seen.isEmpty:=by
      have:a.toList.isEmpty=seen.reverse.isEmpty:=by rw [bm]
      simpa using this
     have aM:kp.isEmpty=es.isEmpty:=by
      cases es with
      | nil=>simp only [df] at g4;have:kp=#[]:=Array.toList_inj.1 g4
             simp [this]
      | cons y bZ=>obtain ⟨e,l,aj,_⟩:=g4;have:kp.toList.isEmpty=false:=by rw [aj];rfl
                   simpa using this
     have cm:kp.all (fun e=>decide (e.born≥last))=sq last es:=by rw [←Gi es _ g4,Array.all_toList]
     have IH:(!a.isEmpty&&!kp.isEmpty&&kp.all (fun e=>decide (e.born≥last)))=false:=by rw [aF,aM,cm,Bool.and_assoc];exact aq
     have vn:=Kd (E:=E) bm es _ g4
     have IP:(kp.filter fun e=>!a.contains e.born).toList=kp.toList.filter fun e=>!a.contains e.born:=by simp
     cases aj:leftOf seen es with
     | nil=>
       rw [aj] at U vn
       simp only [Ey,aT.val.injEq] at U
       obtain ⟨rfl,rfl⟩:=U
       simp only [df] at vn
       have kb:(kp.filter fun e=>!a.contains e.born)=#[]:=by
        apply Array.toList_inj.1;rw [IP,vn]
       refine cC.plain (Z:=.tuple #[.bool false]) s ?_ over
       simp only [Instr.next,kK,Sem.run_bind,dR,Result.andThen_ok,ys,IH,Bool.false_eq_true,if_false,kb,Sem.run_pure]
       simp [choose,Sem.run,Question.forced]
     | cons y bZ=>
       rw [aj] at U vn
       cases bZ with
       | cons _ _=>cases U
       | nil=>
         simp only [Ey] at U
         cases aO:Nat.blt y.born since with
         | false=>rw [aO] at U;cases U
         | true=>
           rw [aO] at U
           simp only [cond_true,aT.val.injEq] at U
           obtain ⟨rfl,rfl⟩:=U
           rw [Nat.blt_eq] at aO
           obtain ⟨e,r,aH,b6,cz,fx,fG⟩:=vn
           simp only [df] at fG
           subst fG
           have kb:(kp.filter fun e=>!a.contains e.born)=#[e]:=by
            apply Array.toList_inj.1;rw [IP,aH]
           rw [←fx] at aO ⊢
           let bR:Obj:=.mapIter (some tR.bd) since (a.push e.born) clock
           let ak:World:={w with heap:=w.heap.setIfInBounds p.bd bR}
           have i':=(Array.getElem?_eq_some_iff.1 a8).1
           have ou:(setObj p.bd bR).run P w=.ok () ak:=by simp only [setObj,Sem.run,a8];rfl
           have pF:¬since≤e.born:=by omega
           refine ⟨.tuple #[.bool true,e.key,e.val],ak,E,?_,Env.le.refl E,?_,s.set (p:=p) (by rw [aD];rfl) ag cS (by simp [ak]) (fun j bG=>?_) rfl rfl rfl (fun _ _ _ e=>by cases e) ?_⟩
           · simp only [Instr.next,kK,Sem.run_bind,dR,Result.andThen_ok,ys,IH,Bool.false_eq_true,if_false,kb,Sem.run_pure]
             have U:(#[e]:Array MapEntry).filter (fun x=>decide (x.born<since))=#[e]:=by simp [aO]
             have ad:(#[e]:Array MapEntry).filter (fun x=>decide (x.born≥since))=#[]:=by simp [aO]
             have jD:(choose (.mapNext 1)).run P w=.ok 0 w:=by simp [choose,Sem.run,Question.forced]
             simp only [U,ad]
             simp [jD]
             change ((setObj p.bd bR).run P w).andThen _=_
             rw [ou]
             rfl
           · simp only [Rel,aZ]
             exact ⟨_,rfl,_,_,rfl,rfl,_,_,rfl,b6,_,_,rfl,cz,rfl⟩
           · simp only [ak,Array.getElem?_setIfInBounds]
             rw [if_neg (fun e=>bG e.symm)]
           · exact ⟨p,some tR.bd,a.push e.born,ag,cS,kK,by simp [ak,i',bR],by simp [bm],tR,mn,rfl⟩
theorem Se {au:Fr} {E:Env} {h aa:ae} {w:World} (s:aW au E h w) {x v:V} {X:Value} (ao:Rel E x X) (he:Cj x h=.val v aa):cC au P E w (Instr.entry X) v aa:=by
 unfold Cj at he
 obtain ⟨b,off,rfl,U⟩:=KY he
 clear he
 have af:=s.at (p:=_) (by simp only [Rel] at ao;exact ao.choose_spec.1)
 cases aD:h.get b<;>rw [aD] at U<;>simp only at U<;>try (cases U;done)
 rename_i src since seen last
 rw [aD] at af
 cases a6:Nat.beq off 0 with
 | false=>rw [a6] at U;cases U
 | true=>
 rw [a6] at U
 simp only [cond_true] at U
 have a6:=Nat.eq_of_beq_eq_true a6
 subst a6
 obtain ⟨p,m,a,ag,cS,kK,a8,bm,hB⟩:=af
 simp only [Rel] at ao
 obtain ⟨q,aE,rfl⟩:=ao
 rw [ag] at aE;cases aE
 have dR:(getObj p.bd).run P w=.ok (.mapIter m since a last) w:=by simp only [getObj,Sem.run,a8]
 cases src with
 | none=>cases U
 | some c=>
   simp only [qA] at hB
   obtain ⟨tR,mn,rfl⟩:=hB
   simp only at U
   cases seen with
   | nil=>cases U
   | cons n adI=>
   simp only at U
   obtain ⟨es,clock,C9,U⟩:=EJ U
   have pz:=s.at mn
   rw [C9] at pz
   obtain ⟨q,kp,g1,_,g3,g4⟩:=pz
   rw [mn] at g1;cases g1
   have ys:(getObj tR.bd).run P w=.ok (.map kp clock) w:=by simp only [getObj,Sem.run,g3]
   rename_i Tu _
   clear Tu
   cases hx:Nat.beq clock last with
   | false=>rw [hx] at U;cases U
   | true=>
     rw [hx] at U
     simp only [cond_true] at U
     have:=Nat.eq_of_beq_eq_true hx
     subst this
     cases CR:uS n es with
     | none=>rw [CR] at U;cases U
     | some y=>
       rw [CR] at U
       simp only [aT.val.injEq] at U
       obtain ⟨rfl,rfl⟩:=U
       obtain ⟨e,f1,f2,f3⟩:=GI es _ y g4 CR
       have TV:a.back? =some n:=by
        have:a.toList.getLast? =some n:=by rw [bm];simp
        simpa using this
       have pB:kp.find? (fun e=>e.born == n)=some e:=by rw [←f1];simp
       refine cC.plain (Z:=.tuple #[e.key,e.val]) s ?_ ?_
       · simp only [Instr.entry,kK,Sem.run_bind,dR,Result.andThen_ok,TV,ys,bne_self_eq_false,Bool.false_eq_true,if_false,pB,Sem.run_pure]
       · simp only [Rel,aZ]
         exact ⟨_,rfl,_,_,rfl,f2,_,_,rfl,f3,rfl⟩
end
end Go.Proofs.YtkehcalakofigaaGreatDoor.aY
namespace Go.Proofs.YtkehcalakofigaaGreatDoor.aY
variable [Lay]
open Go Go.RowKit
section
variable {P:Program}
theorem NU {au:Fr} {E:Env} {h aa:ae} {w:World} (s:aW au E h w) {t u e:TypeId} {size:Nat} (UX:1≤size) {x v:V} {X Y:Value} {ty:TypeId} {n:Nat} {new:List V} {l:List Value}
 (aj:aZ E new l) (h7:new.length=n * size) (fu:n≤top)
 (ew:∀(ak:World) (A:Option Addr) (cw er:Nat),cw+n≤er→(∀a,A=some a→(storeCells (a.add (cw * size)) l).run P w=.ok () ak)→(A=none→ak=w)→
   (Builtin.append_ #[t,u] ty #[.slice A cw er,Y]).run P w=.ok (.slice A (cw+n) er) ak)
 (oo:∀(A:Option Addr) (cw er:Nat) (b2:List Value),(∀ak:World,ak.heap=w.heap→(Builtin.firstCells size cw (.slice A cw er)).run P ak=.ok b2.toArray ak)→¬cw+n≤er→cw+n≤top→b2.length=cw * size→l.length=n * size→
   ∃cap rest ak,cw+n≤cap∧cap * size≤((b2++l).toArray++rest).size∧
   (Builtin.append_ #[t,u] ty #[.slice A cw er,Y]).run P w=.ok (.slice (some ⟨w.heap.size,0,none⟩) (cw+n) cap) ak∧
   ak.heap=w.heap.push (.cells ((b2++l).toArray++rest) e)∧ak.os=w.os∧ak.tape=w.tape∧ak.output=w.output)
 (he:A1 size n new x h=.val v aa) (ao:Rel E x X):cC au P E w (Builtin.append_ #[t,u] ty #[X,Y]) v aa:=by
 have mg:l.length=n * size:=by rw [aj.length,h7]
 unfold A1 at he
 cases x<;>simp only at he<;>try (cases he;done)
 · -- a slice of known capacity
   rename_i b off len cap
   simp only [Rel] at ao
   obtain ⟨p,ag,oi,rfl⟩:=ao
   simp only [ss] at he
   cases e2:Nat.ble (len+n) cap with
   | true=>
     rw [e2] at he
     simp only [cond_true] at he
     rw [Nat.ble_eq] at e2
     cases iD:lay h b (off+len * size) new with
     | none=>rw [iD] at he;cases he
     | some U=>
     rw [iD] at he
     simp only [aT.val.injEq] at he
     obtain ⟨rfl,rfl⟩:=he
     obtain ⟨ak,cb,hg⟩:=tz (P:=P) s aj iD ag
     refine ⟨_,ak,E,ew ak _ _ _ e2 (fun a bm=>?_) (fun bm=>by cases bm),Env.le.refl E,?_,hg⟩
     · cases bm
       rw [add_eq,Nat.add_assoc]
       exact cb
     · simp only [Rel];exact ⟨p,ag,e2,rfl⟩
   | false=>
     rw [e2] at he
     simp only [cond_false] at he
     have DK:¬len+n≤cap:=by rw [←Nat.ble_eq,e2];simp
     obtain ⟨af,he⟩:=ix he
     simp only [Bool.and_eq_true,Nat.ble_eq] at af
     cases hold:lN h size b off len with
     | none=>rw [hold] at he;cases he
     | some b2=>
     rw [hold] at he
     simp only at he
     cases eQ:hE h (b2++new) size false with
     | none=>rw [eQ] at he;cases he
     | some U=>
     rw [eQ] at he
     simp only [aT.val.injEq] at he
     obtain ⟨rfl,rfl⟩:=he
     obtain ⟨q,bI,aE,dL,om,f'⟩:=ug (P:=P) s ⟨p,ag⟩ hold
     rw [ag] at aE;cases aE
     obtain ⟨c,rest,ak,b6,cz,fx,fG,jh,mv,mw⟩:=oo (some ⟨p.bd,p.base+off,none⟩) (len) (cap) _
      (fun ak hw=>by simp only [Builtin.firstCells];exact f' ak hw) DK af.1 (by rw [dL.length,om]) mg
     obtain ⟨ar,g1,g2,g3⟩:=rK (ak:=ak) (bF:=(0,0)) s (dL.append aj) eQ cz (.inr (Nat.le_refl _)) (fun _=>rfl) fG jh mv mw
     refine ⟨_,ak,ar,fx,g1,?_,g3⟩
     simp only [Rel]
     exact ⟨_,g2,by simp only;omega,by simp⟩
 · -- one that was appended to
   rename_i b off len idx
   have vG:=ao
   simp only [Rel] at ao
   obtain ⟨p,ag,IU,rfl⟩:=ao
   simp only [sr] at he
   cases gU:Nat.beq n 0 with
   | true=>
     rw [gU] at he
     simp only [cond_true] at he
     cases he
     rw [Nat.beq_eq] at gU
     subst gU
     have oh:l=[]:=by cases l with | nil=>rfl | cons _ _=>simp at mg
     subst oh
     refine ⟨_,w,E,ew w _ _ _ (by omega) (fun a _=>rfl) (fun bm=>by cases bm),Env.le.refl E,?_,s⟩
     simpa using vG
   | false=>
     rw [gU] at he
     simp only [cond_false] at he
     have na:=s.at ag
     cases aD:h.get b with
     | dead=>rw [aD] at he;cases he
     | view _ _=>rw [aD] at he;cases he
     | iter _ _=>rw [aD] at he;cases he
     | mp _ _=>rw [aD] at he;cases he
     | dq _=>rw [aD] at he;cases he
     | eX=>rw [aD] at he;cases he
     | gb _=>rw [aD] at he;cases he
     | gW _ _ _ _=>rw [aD] at he;cases he
     | cells N cs cj st=>
       rw [aD] at he na
       simp only [bS.on] at he
       obtain ⟨af,he⟩:=ix he
       simp only [Bool.and_eq_true,Nat.ble_eq,Nat.beq_eq] at af
       obtain ⟨⟨C0,Dz,DA⟩,vs⟩:=af
       cases hold:lN h size b off len with
       | none=>rw [hold] at he;cases he
       | some b2=>
       rw [hold] at he
       simp only at he
       cases eQ:hE (h.set b .dead) (b2++new) size st with
       | none=>rw [eQ] at he;cases he
       | some U=>
       rw [eQ] at he
       simp only [aT.val.injEq] at he
       obtain ⟨rfl,rfl⟩:=he
       obtain ⟨q,bI,aE,dL,om,f'⟩:=ug (P:=P) s ⟨p,ag⟩ hold
       rw [ag] at aE;cases aE
       obtain ⟨bt,q,c,el,bF,aF,cS,a8,nb,cb,kc,bg⟩:=na
       rw [ag] at aF;cases aF
       have vu:=UX
       have kc:=kc (by omega)
       rw [C0] at kc
       have wN:=s.kill ag
       by_cases e2:len+n≤p.cap-idx
       · -- in place
         have aO:=(Array.getElem?_eq_some_iff.1 a8).1
         have Uq:(idx+len+n) * size≤p.cap * size:=Nat.mul_le_mul_right _ (by omega)
         have hbound:p.base+off+len * size+0+l.length≤c.size:=by
          rw [mg,vs]
          have:(idx+len+n) * size=idx * size+len * size+n * size:=by rw [Nat.add_mul,Nat.add_mul]
          omega
         have vF:=zW (P:=P) aO el bF (p.base+off+len * size) l c 0 (zn DA aj) hbound nb
         rw [FI a8,Nat.add_zero] at vF
         have DN:=ew (iP w p.bd (mx c (p.base+off+len * size) l) el bF) (some ⟨p.bd,p.base+off,none⟩) _ _ e2
          (fun a bm=>by cases bm;rw [add_eq];exact vF) (fun bm=>by cases bm)
         unfold hE at eQ
         obtain ⟨aq,eQ⟩:=dG eQ
         simp only [Bool.and_eq_true,Nat.ble_eq] at aq
         simp only [Option.some.injEq] at eQ
         subst eQ
         have cU:=s.fresh h.next (Nat.le_refl _)
         have hle:E.le (E.put (aG h.next) ⟨p.bd,p.base+off,p.cap-idx⟩):=Env.jj cU
         have db:E.put (aG h.next) ⟨p.bd,p.base+off,p.cap-idx⟩ (aG h.next)=some ⟨p.bd,p.base+off,p.cap-idx⟩:=by unfold Env.put;rw [if_pos rfl]
         refine ⟨_,_,_,DN,hle,?_,aW.add (p:=⟨p.bd,p.base+off,p.cap-idx⟩) wN (by rw [FJ];exact Nat.le_refl _) (fun j _ bG=>FH _ _ _ bG) cS (fun bz dK fF mq heq=>?_) rfl rfl rfl (fun _ _ _ e=>by injection e with _ _ cm;omega) ?_⟩
         · simp only [Rel]
           exact ⟨_,db,by simp only;omega,by simp⟩
         · rw [ae.dH] at fF
           by_cases gw:b=bz
           · rw [if_pos gw] at fF;cases fF
           · rw [if_neg gw] at fF
             exact gw (s.inj b bz p dK (by rw [aD];rfl) fF ag mq heq.symm)
         · have Dk:(b2++new).length=(len+n) * size:=by rw [List.length_append,om,h7,Nat.add_mul]
           have Uf:(len+n) * size=len * size+n * size:=Nat.add_mul _ _ _
           refine ⟨aq.1,_,_,el,bF,db,cS,wV aO _ _ _,by rw [ns];exact nb,cb,fun _=>?_,?_⟩
           · rw [ns]
             simp only
             have:idx * size + (p.cap-idx) * size=p.cap * size:=by rw [←Nat.add_mul];congr 1;omega
             omega
           · refine ⟨by rw [ns,Dk,Nat.add_mul];simp only;omega,fun i y aC a1=>?_⟩
             rw [wG _ _ _ _ (by omega) (by omega),if_pos (by omega),Nat.sub_zero]
             rw [y0 _ _ _ _ (by omega)] at a1
             simp only at a1
             by_cases b0:i<len * size
             · rw [if_neg (by omega)] at a1
               rw [List.getElem?_append_left (by omega)]
               have dR:=f' w rfl
               have DH:=run_loadCells (P:=P) (w:=w) (off:=p.base+off) (n:=len * size) a8 (by omega)
               rw [DH] at dR
               simp only [Result.ok.injEq,and_true] at dR
               have vo:bI=(c.toList.drop (p.base+off)).take (len * size):=by
                have:=congrArg Array.toList dR
                simpa using this.symm
               obtain ⟨o6,gy,aH⟩:=dL.get i b2[i] (List.getElem?_eq_getElem (by omega))
               rw [List.getElem?_eq_getElem (by omega)]
               rw [vo] at gy
               rw [List.getElem?_take_of_lt (by omega),List.getElem?_drop] at gy
               simp only [Array.getElem?_toList] at gy
               rw [a1] at gy
               cases gy
               exact Rel.mono hle _ _ aH
             · rw [if_pos (by omega)] at a1
               rw [List.getElem?_append_right (by omega)]
               have cm:p.base+off+i - (p.base+off+len * size)=i-b2.length:=by omega
               rw [cm] at a1
               have vp:i-b2.length<new.length:=by omega
               obtain ⟨o6,gy,aH⟩:=aj.get (i-b2.length) new[i-b2.length] (List.getElem?_eq_getElem vp)
               rw [a1] at gy;cases gy
               rw [List.getElem?_eq_getElem vp]
               exact Rel.mono hle _ _ aH
       · -- elsewhere
         obtain ⟨bX,rest,ak,b6,cz,fx,fG,jh,mv,mw⟩:=oo (some ⟨p.bd,p.base+off,none⟩) (len) (p.cap-idx) _
          (fun ak hw=>by simp only [Builtin.firstCells];exact f' ak hw) e2 Dz (by rw [dL.length,om]) mg
         obtain ⟨ar,g1,g2,g3⟩:=rK (ak:=ak) (bF:=(0,0)) wN (dL.append aj) eQ cz (.inr (Nat.le_refl _)) (fun _=>rfl) fG jh mv mw
         refine ⟨_,ak,ar,fx,g1,?_,g3⟩
         simp only [Rel]
         exact ⟨_,g2,by simp only;omega,by simp⟩
 · -- nil
   simp only [Rel] at ao
   subst ao
   simp only [sv] at he
   cases gU:Nat.beq n 0 with
   | true=>
     rw [gU] at he
     simp only [cond_true] at he
     cases he
     rw [Nat.beq_eq] at gU
     subst gU
     exact cC.plain s (ew w _ _ _ (by omega) (fun a bm=>by cases bm) (fun _=>rfl)) (by simp [Rel])
   | false=>
     rw [gU] at he
     simp only [cond_false] at he
     have rk:¬n=0:=by intro e;subst e;simp at gU
     cases eQ:hE h new size false with
     | none=>rw [eQ] at he;cases he
     | some U=>
     rw [eQ] at he
     simp only [aT.val.injEq] at he
     obtain ⟨rfl,rfl⟩:=he
     obtain ⟨c,rest,ak,b6,cz,fx,fG,jh,mv,mw⟩:=oo (none) (0) (0) []
      (fun ak _=>by simp [Builtin.firstCells]) (by omega) (by omega) (by simp) mg
     obtain ⟨ar,g1,g2,g3⟩:=rK (ak:=ak) (bF:=(0,0)) s aj eQ cz (.inr (Nat.le_refl _)) (fun _=>rfl) fG jh mv mw
     refine ⟨_,ak,ar,fx,g1,?_,g3⟩
     simp only [Rel]
     exact ⟨_,g2,by simp only;omega,by simp⟩
structure AU (P:Program) (t u e:TypeId) (size bytes:Nat) (k:IntKind) (z:Value):Prop where
 ut:∀w,(underlying t).run P w=.ok (.slice e) w
 o2:∀w,(underlying u).run P w=.ok (.int k) w
 nC:∀w,(sizeOf e).run P w=.ok size w
 xH:∀w,∃i,(typeInfo e).run P w=.ok i w∧i.bytes=bytes
 uo:∀w,(zeroValue e).run P w=.ok z w
 im:z.cells.size=size
 pos:1≤size
 small:bytes≤4096
theorem MV (c:Array Value):Builtin.zeroCells c 0=#[]:=by simp [Builtin.zeroCells]
theorem aaM {t u e:TypeId} {size bytes:Nat} {k:IntKind} {z:Value} (H:AU P t u e size bytes k z) {n:Nat} (a7:n≤100000) {ty:TypeId} {w ak:World} {A:Option Addr} {cw er:Nat} (e2:cw+n≤er)
 (cb:∀a,A=some a→(storeCells (a.add (cw * size)) (Builtin.zeroCells z.cells n).toList).run P w=.ok () ak) (cU:A=none→ak=w):
 (Builtin.append_ #[t,u] ty #[.slice A cw er,.int .i64 n]).run P w=.ok (.slice A (cw+n) er) ak:=by
 have hw:IntKind.i64.wrap (n:Int)=n:=by unfold IntKind.wrap;simp [IntKind.bits,IntKind.signed];omega
 obtain ⟨i,aC,pE⟩:=H.xH w
 have pt:¬(281474976710656 < (n:Int) * (i.bytes:Int)):=by
  rw [pE]
  have U:n * bytes≤100000 * 4096:=Nat.mul_le_mul a7 H.small
  have ad:((n * bytes:Nat):Int)=(n:Int) * (bytes:Int):=Int.natCast_mul _ _
  omega
 have yC:¬((n:Int)<0):=by omega
 have b4:size≠0:=by have:=H.pos;omega
 have bm:∀w,(asInt (.int .i64 (n:Int))).run P w=.ok (n:Int) w:=fun w=>by simp [asInt,asIntOf]
 have yk:∀w,(asInt (.int .i64 0)).run P w=.ok 0 w:=fun w=>by simp [asInt,asIntOf]
 have tr:IntKind.i64.wrap 0=0:=by decide
 cases A with
 | none=>
   have:=cU rfl;subst this
   by_cases a6:n=0
   · subst a6
     simp [Builtin.append_,H.ut,H.o2,H.nC,yk,aC,tr,(show cw≤er from by omega)]
   · simp [Builtin.append_,H.ut,H.o2,H.nC,H.uo,bm,aC,pt,hw,e2,yC,b4,a6]
 | some a=>
   have:=cb a rfl
   by_cases a6:n=0
   · subst a6
     rw [MV] at this
     simp [Builtin.append_,H.ut,H.o2,H.nC,yk,aC,tr,(show cw≤er from by omega),this]
   · simp [Builtin.append_,H.ut,H.o2,H.nC,H.uo,bm,aC,pt,hw,e2,yC,Nat.mul_ne_zero a6 b4,this]
theorem aaN {t u e:TypeId} {size bytes:Nat} {k:IntKind} {z:Value} (H:AU P t u e size bytes k z) {n:Nat} (a7:n≤100000) {ty:TypeId} {w:World} (A:Option Addr) (cw er:Nat) (b2:List Value)
 (hold:∀ak:World,ak.heap=w.heap→(Builtin.firstCells size cw (.slice A cw er)).run P ak=.ok b2.toArray ak) (e2:¬cw+n≤er) (vE:cw+n≤top) (aP:b2.length=cw * size) (aj:(Builtin.zeroCells z.cells n).toList.length=n * size):
 ∃cap rest ak,cw+n≤cap∧cap * size≤((b2++(Builtin.zeroCells z.cells n).toList).toArray++rest).size∧
  (Builtin.append_ #[t,u] ty #[.slice A cw er,.int .i64 n]).run P w=.ok (.slice (some ⟨w.heap.size,0,none⟩) (cw+n) cap) ak∧
  ak.heap=w.heap.push (.cells ((b2++(Builtin.zeroCells z.cells n).toList).toArray++rest) e)∧ak.os=w.os∧ak.tape=w.tape∧ak.output=w.output:=by
 have hw:IntKind.i64.wrap (n:Int)=n:=by simp only [IntKind.wrap,IntKind.bits,IntKind.signed];simp;omega
 obtain ⟨i,aC,pE⟩:=H.xH w
 have kQ:P.info? e=some i:=by
  simp only [typeInfo,Sem.run_bind,run_program,Result.andThen_ok] at aC
  cases aE:P.info? e with
  | none=>rw [aE] at aC;simp at aC
  | some j=>rw [aE] at aC;simp at aC;rw [aC]
 have q':∀ak,(typeInfo e).run P ak=.ok i ak:=fun ak=>ua kQ ak
 have VH:¬(281474976710656 < (n:Int) * (i.bytes:Int)):=by
  rw [pE]
  have U:n * bytes≤100000 * 4096:=Nat.mul_le_mul a7 H.small
  have ad:((n * bytes:Nat):Int)=(n:Int) * (bytes:Int):=Int.natCast_mul _ _
  omega
 have pt:¬(281474976710656<Builtin.nextslicecap (cw+n) er * i.bytes):=by
  have U:er<cw+n:=by omega
  have:=growslice_fits (bytes:=i.bytes) U (by
   rw [pE]
   have ad:(cw+n) * bytes≤top * 4096:=Nat.mul_le_mul vE H.small
   unfold top at ad
   omega)
  omega
 have gI:¬(9223372036854775807 < ((cw:Int) + (n:Int))):=by unfold top at vE;omega
 have yC:¬((n:Int)<0):=by omega
 have b4:size≠0:=by have:=H.pos;omega
 have bm:∀w,(asInt (.int .i64 (n:Int))).run P w=.ok (n:Int) w:=fun w=>by simp [asInt,asIntOf]
 have yk:∀w,(asInt (.int .i64 0)).run P w=.ok 0 w:=fun w=>by simp [asInt,asIntOf]
 have tr:IntKind.i64.wrap 0=0:=by decide
 let q:Question:=.appendCap (cw+n) er e
 let cap:=q.cut (w.tape w.drawn q)
 have kc:cw+n≤cap:=by show cw+n≤(cw+n)+_;omega
 refine ⟨cap,Builtin.zeroCells z.cells (cap - (cw+n)),w.drew.alloc (.cells ((b2++(Builtin.zeroCells z.cells n).toList).toArray++Builtin.zeroCells z.cells (cap - (cw+n))) e),kc,?_,?_,rfl,rfl,rfl,rfl⟩
 · simp only [Array.size_append,List.size_toArray,List.length_append,aP,aj]
   have:(Builtin.zeroCells z.cells (cap - (cw+n))).size=(cap - (cw+n)) * size:=by simp [Builtin.zeroCells,H.im]
   rw [this,←Nat.add_mul,←Nat.add_mul]
   exact Nat.mul_le_mul_right _ (by omega)
 · have f2:=hold w.drew rfl
   by_cases a6:n=0
   · subst a6
     have U8:¬cw≤er:=by omega
     have TT:¬(9223372036854775807 < (cw:Int)):=by omega
     rw [Nat.add_zero] at pt
     simp [Builtin.append_,H.ut,H.o2,H.nC,H.uo,yk,tr,q',U8,pt,TT,Question.forced,f2,newRow]
     refine ⟨rfl,?_⟩
     have aF:(b2++(Builtin.zeroCells z.cells 0).toList).toArray=b2.toArray:=by rw [MV];simp
     rw [aF]
     rfl
   · simp [Builtin.append_,H.ut,H.o2,H.nC,H.uo,bm,hw,VH,yC,Nat.mul_ne_zero a6 b4,e2,q',pt,gI,Question.forced,f2,newRow]
     refine ⟨rfl,?_⟩
     have aF:(b2++(Builtin.zeroCells z.cells n).toList).toArray=b2.toArray++Builtin.zeroCells z.cells n:=by simp
     rw [aF,Array.append_assoc]
end
end Go.Proofs.YtkehcalakofigaaGreatDoor.aY
namespace Go.Proofs.YtkehcalakofigaaGreatDoor.aY
variable [Lay]
open Go Go.RowKit
section
variable {P:Program}
abbrev bQ (rd:Option Nat):Fence:={fn:=fun _=>True,depth:=none,alive:=false,round:=rd}
theorem pk {rd:Option Nat} {n:Nat} {f:FuncId} {args:Array Value} {w:World} {R:Ending→World→Prop}:CallsIn (bQ rd) n P f args w R↔Calls P f args w R:=callsIn_wide
theorem Ff {rd:Option Nat} (n:Nat):(bQ rd).room n:=fun _ h=>by simp [bQ] at h
abbrev mD (x:Value):List PanicEntry:=[{v:=x,recovered:=false}]
structure fe (P:Program) (call:c4):Prop where
 fn:∀(au:Fr) f args h v aa,f≠cJ→call f args h=.val v aa→∀E w xs,aZ E args xs→aW au E h w→
  ((∃fn,P.funcs[f]? =some fn∧fn.body.isSome=true)∧Calls P f xs.toArray w fun e ak=>∃ar x,e=.returned x∧E.le ar∧Rel ar v x∧aW au ar aa ak)∨
  ∃ar x ak,(callFunc f xs.toArray).run P w=.ok (.value x) ak∧E.le ar∧Rel ar v x∧aW au ar aa ak
 b':∀(au:Fr) f args h v aa,f≠cJ→call f args h=.b' v aa→∀E w xs,aZ E args xs→aW au E h w→
  (∃fn,P.funcs[f]? =some fn∧fn.body.isSome=true)∧Calls P f xs.toArray w fun e ak=>∃ar x,e=.panicked (mD x)∧E.le ar∧Rel ar v x∧aW au ar aa ak
 MT:∀(au:Fr) args b h v aa,call cJ (args++[.ptr b 0]) h=.val v aa→∀E w xs p,aZ E args xs→aW au E h w→E b=some p→
  ∃f tmps assign body,(Instr.yield p.bd xs.toArray).run P w=.ok (.round p.bd f tmps assign body) w∧
   RoundIn (bQ none) 0 P p.bd f tmps assign body w fun e ak=>∃ar x,e=.returned x∧E.le ar∧Rel ar v x∧aW au ar aa ak
 MU:∀args h v aa,call cJ args h≠.b' v aa
theorem mH {rd:Option Nat} {o:Oper} (lq:∀c,o.op≠.defer c) (ρ:Operand→Value):o.semAt (bQ rd).round ρ=execOp ρ o:=Oper.semAt_eq _ ρ o lq
theorem e5 {rd:Option Nat} {o:Oper} {a:Act} {w:World} {au:Fr} {E:Env} {aa:ae} {v:V} {m:Sem Value} {K:Act→World→Prop} {Q:Exit→Act→World→Prop}
 (ao:execOp a.eval o=(do pure (.value (←m)))) (g:cC au P E w m v aa) (c9:∀ar x ak,E.le ar→Rel ar v x→aW au ar aa ak→K (a.put o.dst x) ak) (lq:∀c,o.op≠.defer c:=by intro c h;cases h):
 o.wpIn (bQ rd) 0 P a w K Q:=by
 obtain ⟨Z,ak,ar,U,ad,aI,bq⟩:=g
 refine ⟨fun _ _=>trivial,?_⟩
 rw [mH lq,ao,Sem.run_bind,U]
 exact c9 ar Z ak ad aI bq
theorem zt {E:Env} {an:Nat} {r:bp} {a:Act} (k:RegRel0 E an r a):∀l:List (Nat × Operand),nO E ((p2 l).run r) (l.map fun (i,x)=>(i,a.eval x))
 | []=>rfl
 | (i,x)::l=>by
   simp only [p2,List.map,nO]
   exact ⟨_,_,rfl,c7 k x,zt k l⟩
theorem zr {E:Env} {an:Nat} {r:bp} {a:Act} (k:RegRel0 E an r a) (x:Option Operand):gd E ((nx x).run r) (x.map a.eval):=by
 cases x with
 | none=>rfl
 | some x=>simp only [nx,gd,Option.map];exact ⟨_,rfl,c7 k x⟩
theorem Zn {v:V} {f:aN→Nat→aT} {r:V} {h:ae} (he:v.hl .fail f=.val r h):∃b off,v=.ptr b off∧f b off=.val r h:=by
 cases v<;>simp only [V.hl] at he<;>first
  | (cases he;done)
  | exact ⟨_,_,rfl,he⟩
theorem Y1 {au:Fr} {E:Env} {h aa:ae} {w:World} (s:aW au E h w) {x v:V} {X:Value} {ty:TypeId} (ao:Rel E x X) (he:rL x h=.val v aa):cC au P E w (Instr.next X true ty) v aa:=by
 unfold rL at he
 obtain ⟨b,off,rfl,U⟩:=Zn he
 have af:=s.at (p:=_) (by simp only [Rel] at ao;exact ao.choose_spec.1)
 cases aD:h.get b with
 | dead=>rw [aD] at U;cases U
 | view _ _=>rw [aD] at U;cases U
 | cells _ _ _ _=>rw [aD] at U;cases U
 | mp _ _=>rw [aD] at U;cases U
 | dq _=>rw [aD] at U;cases U
 | eX=>rw [aD] at U;cases U
 | gb _=>rw [aD] at U;cases U
 | gW _ _ _ _=>rw [aD] at U;cases U
 | iter st pos=>
   rw [aD] at U af
   simp only at U
   obtain ⟨a6,ad⟩:=ix U
   rw [Nat.beq_eq] at a6
   subst a6
   obtain ⟨p,ag,cS,kK,a8⟩:=af
   simp only [Rel] at ao
   obtain ⟨q,aE,rfl⟩:=ao
   rw [ag] at aE;cases aE
   have dR:(getObj p.bd).run P w=.ok (.stringIter ⟨⟨st⟩⟩ pos) w:=by simp only [getObj,Sem.run,a8]
   have b4:(⟨⟨st⟩⟩:ByteArray).size=st.length:=rfl
   cases aO:Nat.blt pos st.length with
   | true=>
     rw [aO] at ad
     simp only [cond_true,aT.val.injEq] at ad
     obtain ⟨rfl,rfl⟩:=ad
     rw [Nat.blt_eq] at aO
     let bR:Obj:=.stringIter ⟨⟨st⟩⟩ (pos + (decodeL st pos).2)
     let ak:World:={w with heap:=w.heap.setIfInBounds p.bd bR}
     have i':=(Array.getElem?_eq_some_iff.1 a8).1
     have ou:(setObj p.bd bR).run P w=.ok () ak:=by simp only [setObj,Sem.run,a8];rfl
     refine ⟨.tuple #[.bool true,goInt pos,.int .i32 (decodeL st pos).1],ak,E,?_,Env.le.refl E,?_,s.set (p:=p) (by rw [aD];rfl) ag cS (by simp [ak]) (fun j bG=>?_) rfl rfl rfl (fun _ _ _ e=>by cases e) ?_⟩
     · simp only [Instr.next,kK,Sem.run_bind,dR,Result.andThen_ok,b4,if_pos aO]
       have:(Utf8.decode (⟨⟨st⟩⟩:ByteArray) pos)=decodeL st pos:=rfl
       simp only [this]
       rw [ou]
       rfl
     · simp only [Rel,aZ]
       exact ⟨_,rfl,_,_,rfl,rfl,_,_,rfl,rfl,_,_,rfl,rfl,rfl⟩
     · simp only [ak,Array.getElem?_setIfInBounds]
       rw [if_neg (fun e=>bG e.symm)]
     · exact ⟨p,ag,cS,kK,by simp [ak,i',bR]⟩
   | false=>
     rw [aO] at ad
     simp only [cond_false,aT.val.injEq] at ad
     obtain ⟨rfl,rfl⟩:=ad
     have mi:¬pos<st.length:=by rw [←Nat.blt_eq,aO];simp
     refine cC.plain (Z:=.tuple #[.bool false]) s ?_ ?_
     · simp only [Instr.next,kK,Sem.run_bind,dR,Result.andThen_ok,b4,if_neg mi,Sem.run_pure]
     · simp only [Rel,aZ]
       exact ⟨_,rfl,_,_,rfl,rfl,rfl⟩
theorem aak {au:Fr} {E:Env} {h aa:ae} {w:World} (s:aW au E h w) {t:TypeId} {x v:V} {X:Value} (ao:Rel E x X) (he:(zK P t).run x h=.val v aa):cC au P E w (Instr.range t X) v aa:=by
 unfold zK at he
 cases aB:aX P t with
 | none=>rw [aB] at he;cases he
 | some aL=>
   rw [aB] at he
   simp only at he
   have hu:=ez aB
   cases bC:aL.a_ with
   | string=>
     rw [bC] at he hu
     simp only at he
     cases x<;>simp only at he<;>try (cases he;done)
     rename_i st
     simp only [aT.val.injEq] at he
     obtain ⟨rfl,rfl⟩:=he
     have:=ao.oY;subst this
     have cU:=s.fresh h.next (Nat.le_refl _)
     have db:E.put (aG h.next) ⟨w.heap.size,0,0⟩ (aG h.next)=some ⟨w.heap.size,0,0⟩:=by unfold Env.put;rw [if_pos rfl]
     refine ⟨.pointer (some ⟨w.heap.size,0,none⟩),{w with heap:=w.heap.push (.stringIter ⟨⟨st⟩⟩ 0)},_,?_,Env.jj (p:=⟨w.heap.size,0,0⟩) cU,?_,s.alloc 0 ?_⟩
     · simp only [Instr.range,Sem.run_bind,hu,Result.andThen_ok,Sem.run_pure,run_newObj]
     · simp only [Rel];exact ⟨_,db,by simp⟩
     · exact ⟨_,db,s.frame.size,rfl,by simp⟩
   | map b1 h3=>
     rw [bC] at he hu
     exact aal s (hu w) ao he
   | _=>rw [bC] at he;cases he
theorem NR {au:Fr} {E:Env} {h aa:ae} {w:World} (s:aW au E h w) {t u:TypeId} {x y v:V} {X Y:Value} {ty:TypeId}
 (he:(xr P t u).run x y h=.val v aa) (ao:Rel E x X) (a1:Rel E y Y):cC au P E w (Builtin.append_ #[t,u] ty #[X,Y]) v aa:=by
 unfold xr at he
 cases aB:aX P t with
 | none=>rw [aB] at he;cases he
 | some aL=>
   cases hu:aX P u with
   | none=>rw [aB,hu] at he;cases he
   | some o1=>
     rw [aB,hu] at he
     simp only at he
     have main:(∀k,o1.a_≠.int k)→(match aL.a_ with
      | .slice e=>match aX P e with
        | none=>(⟨fun _ _ _=>.fail⟩:wY)
        | some bb=>match bb.zero with
          | none=>⟨fun _ _ _=>.fail⟩
          | some z=>bif Nat.ble 1 bb.size&&Nat.ble bb.bytes 4096&&Nat.beq z.cells.length bb.size then ⟨lU bb.size⟩ else ⟨fun _ _ _=>.fail⟩
      | _=>⟨fun _ _ _=>.fail⟩).run x y h=.val v aa→cC au P E w (Builtin.append_ #[t,u] ty #[X,Y]) v aa:=by
      intro ng he
      cases bC:aL.a_ with
      | slice e=>
        rw [bC] at he
        simp only at he
        cases b5:aX P e with
        | none=>rw [b5] at he;cases he
        | some bb=>
          rw [b5] at he
          simp only at he
          cases bn:bb.zero with
          | none=>rw [bn] at he;cases he
          | some z=>
            rw [bn] at he
            simp only at he
            cases aq:(Nat.ble 1 bb.size&&Nat.ble bb.bytes 4096&&Nat.beq z.cells.length bb.size) with
            | false=>rw [aq] at he;cases he
            | true=>
              rw [aq] at he
              simp only [cond_true] at he
              simp only [Bool.and_eq_true,Nat.ble_eq,Nat.beq_eq] at aq
              obtain ⟨nI,vH,_,nm⟩:=qh (P:=P) (E:=E) b5 bn w
              refine NT s ⟨fun w=>?_,⟨o1.a_,fun w=>ez hu w,ng⟩,fun w=>hW b5 w,fun w=>Fi b5 w,⟨nI,vH,by rw [nm];exact aq.2⟩,aq.1.1,aq.1.2⟩ he ao a1
              have:=ez aB w
              rw [bC] at this
              exact this
      | _=>rw [bC] at he;cases he
     cases tp:o1.a_ with
     | int k=>
       rw [tp] at he
       simp only at he
       cases bC:aL.a_ with
       | slice e=>
         rw [bC] at he
         simp only at he
         cases b5:aX P e with
         | none=>rw [b5] at he;cases he
         | some bb=>
           rw [b5] at he
           simp only at he
           cases bn:bb.zero with
           | none=>rw [bn] at he;cases he
           | some z=>
             rw [bn] at he
             simp only at he
             cases aq:(Nat.ble 1 bb.size&&Nat.ble bb.bytes 4096&&Nat.beq z.cells.length bb.size) with
             | false=>rw [aq] at he;cases he
             | true=>
               rw [aq] at he
               simp only [cond_true] at he
               simp only [Bool.and_eq_true,Nat.ble_eq,Nat.beq_eq] at aq
               obtain ⟨nI,vH,D0,nm⟩:=qh (P:=P) (E:=E) b5 bn w
               have tq:∀w,(underlying t).run P w=.ok (.slice e) w:=fun w=>by have:=ez aB w;rw [bC] at this;exact this
               have DS:∀w,(underlying u).run P w=.ok (.int k) w:=fun w=>by have:=ez hu w;rw [tp] at this;exact this
               have H:AU P t u e bb.size bb.bytes k nI:=⟨tq,DS,fun w=>hW b5 w,fun w=>Fi b5 w,vH,by rw [nm];exact aq.2,aq.1.1,aq.1.2⟩
               unfold Gn at he
               split at he
               case h_2=>cases he
               rename_i cc m
               split at he
               case h_2=>cases he
               rename_i n
               obtain ⟨ma,bw⟩:=ix he
               simp only [Bool.and_eq_true,Nat.ble_eq] at ma
               have az:=pq ma.1
               subst az
               simp only [Rel] at a1
               subst a1
               have DJ:=wJ D0 n
               have hlen:(gM z.cells n).length=n * bb.size:=by
                rw [←DJ.length]
                simp [Builtin.zeroCells,nm,aq.2]
               exact NU s aq.1.1 DJ hlen (by have:=ma.2;unfold top;omega) (fun ak A cw er a b c=>aaM H ma.2 a b c) (fun A cw er b2 a b c d f=>aaN H ma.2 A cw er b2 a b c d f) bw ao
       | _=>rw [bC] at he;cases he
     | _=>rw [tp] at he;exact main (by rw [tp];simp) he
theorem RN {au:Fr} {E:Env} {h aa:ae} {w:World} (s:aW au E h w) {t:TypeId} {rest:List TypeId} {x y v:V} {X Y:Value} {ty:TypeId}
 (he:(xN P t).run x y h=.val v aa) (ao:Rel E x X) (a1:Rel E y Y):cC au P E w (Builtin.copy_ (t::rest).toArray ty #[X,Y]) v aa:=by
 unfold xN at he
 cases aB:aX P t with
 | none=>rw [aB] at he;cases he
 | some aL=>
   rw [aB] at he
   simp only at he
   cases bC:aL.a_ with
   | slice e=>
     rw [bC] at he
     simp only at he
     cases b5:aX P e with
     | none=>rw [b5] at he;cases he
     | some bb=>
       rw [b5] at he
       simp only at he
       exact RO s (fun w=>by have:=ez aB w;rw [bC] at this;exact this) (fun w=>hW b5 w) he ao a1
   | _=>rw [bC] at he;cases he
theorem Ru {au:Fr} {E:Env} {h aa:ae} {w:World} (s:aW au E h w) {t:TypeId} {x v:V} {X:Value} {ty:TypeId} {z:List V} (aq:uY P t=some z)
 (he:xM z x h=.val v aa) (ao:Rel E x X):cC au P E w (Builtin.clear_ #[t] ty #[X]) v aa:=by
 unfold uY at aq
 cases aB:aX P t with
 | none=>rw [aB] at aq;cases aq
 | some aL=>
   rw [aB] at aq
   simp only at aq
   cases bC:aL.a_ with
   | slice e=>
     rw [bC] at aq
     simp only at aq
     cases b5:aX P e with
     | none=>rw [b5] at aq;cases aq
     | some bb=>
       rw [b5] at aq
       simp only at aq
       cases bn:bb.zero with
       | none=>rw [bn] at aq;cases aq
       | some z0=>
         rw [bn] at aq
         simp only [Option.some.injEq] at aq
         subst aq
         have hu:∀w,(underlying t).run P w=.ok (.slice e) w:=fun w=>by have:=ez aB w;rw [bC] at this;exact this
         obtain ⟨z,jM,D0,JA⟩:=qh (P:=P) (E:=E) b5 bn w
         have nothing:∀a c,X=.slice a 0 c→v=.tuple []→aa=h→cC au P E w (Builtin.clear_ #[t] ty #[X]) v aa:=by
          intro a c cK bw a8
          subst cK bw a8
          refine ⟨.tuple #[],w,E,?_,Env.le.refl E,?_,s⟩
          · cases a<;>simp [Builtin.clear_,Sem.run_bind,hu,Result.andThen_ok,Sem.run_pure]
          · simp only [Rel];exact ⟨_,rfl,rfl⟩
         have Ma:∀(b:aN) (off n c:Nat) (p:gO),E b=some p→X=.slice (some ⟨p.bd,p.base+off,none⟩) n c→(bif Nat.beq n 0 then (aT.val (.tuple []) h) else (match lay h b off (gM z0.cells n) with
          | some aa=>aT.val (.tuple []) aa
          | none=>.fail))=.val v aa→cC au P E w (Builtin.clear_ #[t] ty #[X]) v aa:=by
          intro b off n c p ag cK he
          cases n with
          | zero=>
            simp only [Nat.beq_refl,cond_true,aT.val.injEq] at he
            exact nothing _ _ cK he.1.symm he.2.symm
          | succ n=>
            simp only [show Nat.beq (n+1) 0=false from rfl,cond_false] at he
            cases aj:lay h b off (gM z0.cells (n+1)) with
            | none=>rw [aj] at he;cases he
            | some U=>
              rw [aj] at he
              simp only [aT.val.injEq] at he
              obtain ⟨rfl,rfl⟩:=he
              obtain ⟨ak,g1,g2⟩:=tz (P:=P) s (wJ D0 (n+1)) aj ag
              subst cK
              refine ⟨.tuple #[],ak,E,?_,Env.le.refl E,?_,g2⟩
              · simp only [Builtin.clear_,Sem.run_bind,List.getElem?_toArray,List.getElem?_cons_zero,hu,jM,Result.andThen_ok]
                have:(storeCells ⟨p.bd,p.base+off,none⟩ (Builtin.zeroCells z.cells (n+1)).toList).run P w=.ok () ak:=g1
                simp [this,Sem.run_pure,Result.andThen_ok]
              · simp only [Rel];exact ⟨_,rfl,rfl⟩
         unfold xM at he
         cases x<;>simp only at he<;>try (cases he;done)
         · simp only [Rel] at ao
           obtain ⟨p,g1,g2,g3⟩:=ao
           exact Ma _ _ _ _ p g1 g3 he
         · simp only [Rel] at ao
           obtain ⟨p,g1,g2,g3⟩:=ao
           exact Ma _ _ _ _ p g1 g3 he
         · simp only [Rel] at ao
           obtain ⟨a,c,rfl⟩:=ao
           simp only [aT.val.injEq] at he
           exact nothing _ _ rfl he.1.symm he.2.symm
         · simp only [Rel] at ao
           simp only [aT.val.injEq] at he
           exact nothing _ _ ao he.1.symm he.2.symm
   | _=>rw [bC] at aq;cases aq
theorem Q' {E:Env} {t:TypeId} {aL:kF} {x v:V} {X:Value} {ty:TypeId} (aB:aX P t=some aL) (aR:D9 aL.a_=true) (he:B4 x=some v) (ao:Rel E x X) (w:World):
 ∃Z,(Builtin.cap_ #[t] ty #[X]).run P w=.ok Z w∧Rel E v Z:=by
 cases bC:aL.a_ with
 | slice e=>
   have hu:∀w,(underlying t).run P w=.ok (.slice e) w:=fun w=>by have:=ez aB w;rw [bC] at this;exact this
   cases x<;>simp only [B4] at he<;>try (cases he;done)
   · simp only [Rel] at ao
     obtain ⟨p,_,_,rfl⟩:=ao
     cases he
     refine ⟨_,?_,rfl⟩
     simp [Builtin.cap_,Sem.run_bind,hu,Result.andThen_ok,Sem.run_pure]
     rfl
   · simp only [Rel] at ao
     subst ao
     cases he
     refine ⟨_,?_,rfl⟩
     simp [Builtin.cap_,Sem.run_bind,hu,Result.andThen_ok,Sem.run_pure]
     rfl
 | _=>rw [bC] at aR;cases aR
theorem wR {α:Type} (a:Array α):a.toList.toArray=a:=by simp
theorem Oz {au:Fr} {E:Env} {h aa:ae} {w:World} (s:aW au E h w) {b:Builtin} {b7:Array TypeId} {args:List V} {xs:List Value} {v:V} {ty:TypeId} {cs:Array Bool} (aj:aZ E args xs)
 (he:(nW P b b7.toList).run args h=.val v aa):∃m:Sem Value,Go.builtin b b7 ty cs xs.toArray=(do pure (.value (←m)))∧cC au P E w m v aa:=by
 have one:∀{x:V},aZ E [x] xs→∃X,xs=[X]∧Rel E x X:=by
  intro x h
  simp only [aZ] at h
  obtain ⟨y,bZ,rfl,a1,rfl⟩:=h
  exact ⟨y,rfl,a1⟩
 have two:∀{x y:V},aZ E [x,y] xs→∃X Y,xs=[X,Y]∧Rel E x X∧Rel E y Y:=by
  intro x y h
  simp only [aZ] at h
  obtain ⟨X,_,rfl,cK,Y,_,rfl,ej,rfl⟩:=h
  exact ⟨X,Y,rfl,cK,ej⟩
 cases b<;>simp only [nW] at he<;>try (simp [eN.none] at he;done)
 · -- append
   cases eo:b7.toList with
   | nil=>rw [eo] at he;simp [eN.none] at he
   | cons t o0=>
     rw [eo] at he
     cases o0 with
     | nil=>simp [eN.none] at he
     | cons u abZ=>
       cases abZ with
       | cons _ _=>simp [eN.none] at he
       | nil=>
         simp only at he
         match args,he,aj with
         | [x,y],he,aj=>
           obtain ⟨X,Y,rfl,cK,ej⟩:=two aj
           have e:b7=#[t,u]:=by rw [←wR b7,eo]
           exact ⟨_,rfl,by rw [e];exact NR s he cK ej⟩
         | [],he,_=>cases he
         | [_],he,_=>cases he
         | _::_::_::_,he,_=>cases he
 · -- cap
   cases eo:b7.toList with
   | nil=>rw [eo] at he;simp [eN.none] at he
   | cons t o0=>
     rw [eo] at he
     cases o0 with
     | cons _ _=>simp [eN.none] at he
     | nil=>
       simp only at he
       cases aB:aX P t with
       | none=>rw [aB] at he;simp [eN.none] at he
       | some aL=>
         rw [aB] at he
         simp only at he
         cases aR:D9 aL.a_ with
         | false=>rw [aR] at he;simp [eN.none] at he
         | true=>
           rw [aR] at he
           simp only [cond_true] at he
           match args,he,aj with
           | [x],he,aj=>
             obtain ⟨X,rfl,cK⟩:=one aj
             have e:b7=#[t]:=by rw [←wR b7,eo]
             obtain ⟨dD,rfl⟩:=aT.gA he
             obtain ⟨Z,eC,cn⟩:=Q' (P:=P) (ty:=ty) aB aR dD cK w
             exact ⟨_,rfl,by rw [e];exact cC.plain s eC cn⟩
           | [],he,_=>cases he
           | _::_::_,he,_=>cases he
 · -- clear
   cases eo:b7.toList with
   | nil=>rw [eo] at he;simp [eN.none] at he
   | cons t o0=>
     rw [eo] at he
     cases o0 with
     | cons _ _=>simp [eN.none] at he
     | nil=>
       simp only at he
       cases aq:uY P t with
       | none=>rw [aq] at he;simp [eN.none] at he
       | some z=>
         rw [aq] at he
         simp only at he
         match args,he,aj with
         | [x],he,aj=>
           obtain ⟨X,rfl,cK⟩:=one aj
           have e:b7=#[t]:=by rw [←wR b7,eo]
           exact ⟨_,rfl,by rw [e];exact Ru s aq he cK⟩
         | [],he,_=>cases he
         | _::_::_,he,_=>cases he
 · -- copy
   cases eo:b7.toList with
   | nil=>rw [eo] at he;simp [eN.none] at he
   | cons t o0=>
     rw [eo] at he
     simp only at he
     match args,he,aj with
     | [x,y],he,aj=>
       obtain ⟨X,Y,rfl,cK,ej⟩:=two aj
       have e:b7=(t::o0).toArray:=by rw [←wR b7,eo]
       exact ⟨_,rfl,by rw [e];exact RN s he cK ej⟩
     | [],he,_=>cases he
     | [_],he,_=>cases he
     | _::_::_::_,he,_=>cases he
 · -- len
   cases eo:b7.toList with
   | nil=>rw [eo] at he;simp [eN.none] at he
   | cons t o0=>
     rw [eo] at he
     cases o0 with
     | cons _ _=>simp [eN.none] at he
     | nil=>
       simp only at he
       cases aB:aX P t with
       | none=>rw [aB] at he;simp [eN.none] at he
       | some aL=>
         rw [aB] at he
         simp only at he
         match args,he,aj with
         | [x],he,aj=>
           obtain ⟨X,rfl,cK⟩:=one aj
           have e:b7=[t].toArray:=by rw [←wR b7,eo]
           cases hm:pO aL.a_ with
           | true=>
             rw [hm] at he
             exact ⟨_,rfl,by rw [e];exact Yh s aB hm cK ty [] he⟩
           | false=>
             rw [hm] at he
             simp only [cond_false] at he
             obtain ⟨dD,rfl⟩:=aT.gA he
             obtain ⟨Z,eC,cn⟩:=Yi (P:=P) aB dD cK ty [] w
             exact ⟨_,rfl,by rw [e];exact cC.plain s eC cn⟩
         | [],he,_=>cases hm:pO aL.a_<;>rw [hm] at he<;>cases he
         | _::_::_,he,_=>cases hm:pO aL.a_<;>rw [hm] at he<;>cases he
 · -- max
   obtain ⟨dD,rfl⟩:=aT.gA he
   clear he
   cases args with
   | nil=>cases dD
   | cons x args=>
     simp only [ie] at dD
     obtain ⟨k,a,rfl,U⟩:=hF dD
     simp only [aZ] at aj
     obtain ⟨X,bZ,rfl,cK,aj⟩:=aj
     have:=cK.hh;subst this
     obtain ⟨Z,eC,cn⟩:=EU (P:=P) false args bZ k a v aj U w
     exact ⟨_,rfl,cC.plain (Z:=Z) s (by simpa [Builtin.max_] using eC) cn⟩
 · -- min
   obtain ⟨dD,rfl⟩:=aT.gA he
   clear he
   cases args with
   | nil=>cases dD
   | cons x args=>
     simp only [ie] at dD
     obtain ⟨k,a,rfl,U⟩:=hF dD
     simp only [aZ] at aj
     obtain ⟨X,bZ,rfl,cK,aj⟩:=aj
     have:=cK.hh;subst this
     obtain ⟨Z,eC,cn⟩:=EU (P:=P) true args bZ k a v aj U w
     exact ⟨_,rfl,cC.plain (Z:=Z) s (by simpa [Builtin.min_] using eC) cn⟩
end
end Go.Proofs.YtkehcalakofigaaGreatDoor.aY
namespace Go.Proofs.YtkehcalakofigaaGreatDoor.aY
variable [Lay]
open Go Go.RowKit
section
variable {P:Program}
def dJ (P:Program):Prop:=∀(f:FuncId) (fn:Func),P.funcs[f]? =some fn→(fn.name == "runtime.NumGoroutine")=false
theorem p_ (bt:dJ P) {f:FuncId} {fn:Func} (ax:P.funcs[f]? =some fn) (af:fn.body.isSome=true) (args:Array Value) (w:World):(callFunc f args).run P w=.ok (.enter f args) w:=by
 have fD:fn.body.isNone=false:=by cases h:fn.body with | none=>rw [h] at af;cases af | some c=>rfl
 simp only [callFunc,Sem.run_bind,run_program,Result.andThen_ok,ax]
 rw [if_neg (by rw [bt f fn ax];simp)]
 simp [fD]
theorem El {α β:Type} (f:α→β) (a:Array α):a.map f=(a.toList.map f).toArray:=by
 apply Array.ext'
 simp
theorem ET (ρ:Operand→Value) (a':Array (Nat × Operand)):(a'.map fun (i,x)=>(i,ρ x))=(a'.toList.map fun (i,x)=>(i,ρ x)).toArray:=by
 apply Array.ext'
 simp
theorem N6 {E:Env} {t qg:TypeId} {aL:kF} {ok:Bool} {x v:V} {X:Value} (aB:aX P t=some aL) (af:Nat.beq (dW aL.a_) 5=false) (ao:Rel E x X)
 (he:uM t aL.zero ok x=some v) (w:World):∃Z,(Instr.typeAssert X qg t ok).run P w=.ok Z w∧Rel E v Z:=by
 have hu:=ez aB w
 have ng:∀ms,aL.a_≠.interface ms:=fun ms e=>by rw [e] at af;simp [dW] at af
 have zero:∀z,aL.zero=some z→∃x,(zeroValue t).run P w=.ok x w∧Rel E z x:=fun z bn=>by
  obtain ⟨x,U,ad,_⟩:=ub (P:=P) aB bn E w
  exact ⟨x,U,ad⟩
 unfold uM at he
 cases x<;>simp only at he<;>try (cases he;done)
 case iface u y=>
  simp only [Rel] at ao
  obtain ⟨Y,rfl,ej⟩:=ao
  rw [fM] at he
  by_cases tq:u=t
  · rw [if_pos tq] at he
    simp only [Option.some.injEq] at he
    subst tq
    cases ok with
    | true=>
      simp only [cond_true] at he
      subst he
      refine ⟨.tuple #[Y,.bool true],?_,by simp only [Rel,aZ];exact ⟨_,rfl,_,_,rfl,ej,_,_,rfl,rfl,rfl⟩⟩
      simp only [Instr.typeAssert,Sem.run_bind,hu,Result.andThen_ok]
      cases bC:aL.a_<;>first
       | exact absurd bC (ng _)
       | (simp only [if_true];rfl)
    | false=>
      simp only [cond_false] at he
      subst he
      refine ⟨Y,?_,ej⟩
      simp only [Instr.typeAssert,Sem.run_bind,hu,Result.andThen_ok]
      cases bC:aL.a_<;>first
       | exact absurd bC (ng _)
       | (simp only [if_true];rfl)
  · rw [if_neg tq] at he
    cases ok with
    | false=>cases he
    | true=>
      simp only [cond_true] at he
      cases bn:aL.zero with
      | none=>rw [bn] at he;cases he
      | some z=>
        rw [bn] at he
        simp only [Option.some.injEq] at he
        subst he
        obtain ⟨ba,ca,z2⟩:=zero z bn
        refine ⟨.tuple #[ba,.bool false],?_,by simp only [Rel,aZ];exact ⟨_,rfl,_,_,rfl,z2,_,_,rfl,rfl,rfl⟩⟩
        simp only [Instr.typeAssert,Sem.run_bind,hu,Result.andThen_ok]
        cases bC:aL.a_<;>first
         | exact absurd bC (ng _)
         | (simp only [if_neg tq,if_true,Sem.run_bind,ca,Result.andThen_ok];rfl)
 case nilIface=>
  simp only [Rel] at ao
  subst ao
  cases ok with
  | false=>cases he
  | true=>
    simp only [cond_true] at he
    cases bn:aL.zero with
    | none=>rw [bn] at he;cases he
    | some z=>
      rw [bn] at he
      simp only [Option.some.injEq] at he
      subst he
      obtain ⟨ba,ca,z2⟩:=zero z bn
      refine ⟨.tuple #[ba,.bool false],?_,by simp only [Rel,aZ];exact ⟨_,rfl,_,_,rfl,z2,_,_,rfl,rfl,rfl⟩⟩
      simp only [Instr.typeAssert,Sem.run_bind,hu,Result.andThen_ok]
      cases bC:aL.a_<;>first
       | exact absurd bC (ng _)
       | (simp only [if_true,Sem.run_bind,ca,Result.andThen_ok];rfl)
def fp (P:Program) (call:c4):Prop:=∀f args h v aa,call f args h=.val v aa→True
set_option maxHeartbeats 2000000 in
theorem Hk {rd:Option Nat} {au:Fr} {E:Env} {h aa:ae} {w:World} {call:c4} (bt:dJ P) (cp:fe P call) (cZ:fp P call) {o:Oper} {an:Nat} {r:bp} {a:Act} {v:V}
 (he:(eb P o).run call r h=.val v aa) (k:RegRel0 E an r a) (s:aW au E h w) {K:Act→World→Prop} {Q:Exit→Act→World→Prop}
 (c9:∀ar x ak,E.le ar→Rel ar v x→aW au ar aa ak→K (a.put o.dst x) ak):o.wpIn (bQ rd) 0 P a w K Q:=by
 obtain ⟨dst,op,type,pos,after,guard⟩:=o
 cases op<;>simp only [eb] at he<;>try (simp [cG.none] at he;done)
 case move x=>
  simp only [aT.val.injEq] at he;obtain ⟨rfl,rfl⟩:=he
  exact e5 (m:=pure (a.eval x)) rfl (cC.plain s rfl (c7 k x)) c9
 case assign x=>
  simp only [aT.val.injEq] at he;obtain ⟨rfl,rfl⟩:=he
  exact e5 (m:=pure (a.eval x)) rfl (cC.plain s rfl (c7 k x)) c9
 case pick c x y=>
  have aq:=c7 k c
  generalize (bA c).run r=FF at he aq
  cases FF<;>simp only at he<;>try (cases he;done)
  rename_i t
  simp only [aT.val.injEq] at he;obtain ⟨rfl,rfl⟩:=he
  simp only [Rel] at aq
  refine e5 (m:=do pure (if ←asBool (a.eval c) then a.eval x else a.eval y)) (by simp only [execOp,bind_assoc,pure_bind]) (cC.plain (Z:=if t then a.eval x else a.eval y) s ?_ ?_) c9
  · rw [aq];rfl
  · cases t
    · exact c7 k y
    · exact c7 k x
 case alloc t=>
  cases aB:aX P t with
  | none=>rw [aB] at he;simp [cG.none] at he
  | some aL=>
    rw [aB] at he
    simp only at he
    cases bn:aL.zero with
    | none=>rw [bn] at he;simp [cG.none] at he
    | some z=>
      rw [bn] at he
      simp only at he
      cases a7:e4 h z.cells with
      | none=>rw [a7] at he;cases he
      | some U=>
        rw [a7] at he
        simp only [fW,aT.val.injEq] at he;obtain ⟨rfl,rfl⟩:=he
        obtain ⟨x,ao,nk,_⟩:=qh (P:=P) (E:=E) aB bn w
        obtain ⟨ar,g1,g2,g3,g4⟩:=zb (P:=P) s nk a7 t
        have Cu:(newRow t x.cells).run P w=.ok ⟨w.heap.size,0,none⟩ {w with heap:=w.heap.push (.cells x.cells t)}:=by simpa using g3
        have Cv:aW au ar U {w with heap:=w.heap.push (.cells x.cells t)}:=by simpa using g4
        exact e5 (m:=Instr.alloc t true (.tuple #[])) rfl ⟨.pointer (some ⟨w.heap.size,0,none⟩),_,ar,by simp only [Instr.alloc,Sem.run_bind,ao,Result.andThen_ok,newVar,Cu,Sem.run_pure],g1,by simp only [Rel];exact ⟨_,g2,by simp⟩,Cv⟩ c9
 case box t x=>
  obtain ⟨aD,he⟩:=ix he
  cases a7:e4 h ((bA x).run r).cells with
  | none=>rw [a7] at he;cases he
  | some U=>
    rw [a7] at he
    simp only [fW,aT.val.injEq] at he;obtain ⟨rfl,rfl⟩:=he
    have aj:=(c7 k x).cells (fun e=>by rw [e] at aD;cases aD)
    obtain ⟨ar,g1,g2,g3,g4⟩:=zb (P:=P) s aj a7 t
    have Cu:(newRow t (a.eval x).cells).run P w=.ok ⟨w.heap.size,0,none⟩ {w with heap:=w.heap.push (.cells (a.eval x).cells t)}:=by simpa using g3
    have Cv:aW au ar U {w with heap:=w.heap.push (.cells (a.eval x).cells t)}:=by simpa using g4
    exact e5 (m:=Instr.box t (a.eval x)) rfl ⟨.pointer (some ⟨w.heap.size,0,none⟩),_,ar,by simp only [Instr.box,Sem.run_bind,newVar,Cu,Result.andThen_ok,Sem.run_pure],g1,by simp only [Rel];exact ⟨_,g2,by simp⟩,Cv⟩ c9
 case build t a'=>
  obtain ⟨dD,rfl⟩:=aT.gA he
  clear he
  obtain ⟨Z,eC,cn⟩:=Ov (P:=P) (zt k a'.toList) dD w
  refine e5 (m:=Instr.build t (a'.map fun (i,x)=>(i,a.eval x))) rfl (cC.plain (Z:=Z) s ?_ cn) c9
  rw [ET];exact eC
 case buildSlice t n a'=>
  refine e5 (m:=Instr.buildSlice t n (a'.map fun (i,x)=>(i,a.eval x))) rfl ?_ c9
  rw [ET]
  exact Ox s (zt k a'.toList) he
 case load t x=>
  obtain ⟨dD,rfl⟩:=aT.gA he
  clear he
  obtain ⟨Y,ej,cn,_⟩:=Ko (P:=P) s (c7 k x) dD
  exact e5 (m:=Instr.loadAt t (a.eval x)) rfl (cC.plain s ej cn) c9
 case store t x y=>
  cases cb:(oU P t).run h ((bA x).run r) ((bA y).run r) with
  | none=>rw [cb] at he;cases he
  | some U=>
    rw [cb] at he
    simp only [fW,aT.val.injEq] at he;obtain ⟨rfl,rfl⟩:=he
    obtain ⟨ak,cu,hg⟩:=abu (P:=P) s (c7 k x) (c7 k y) cb
    refine ⟨fun _ _=>trivial,?_⟩
    rw [mH (by intro c h;cases h)]
    have:execOp a.eval ⟨dst,.store t x y,type,pos,after,guard⟩=(do Instr.storeAt t (a.eval x) (a.eval y);pure .skip):=rfl
    rw [this,Sem.run_bind,cu]
    exact c9 E undef ak (Env.le.refl E) (by simp [Rel]) hg
 case nilCheck x=>
  obtain ⟨dD,rfl⟩:=aT.gA he
  clear he
  have ao:=c7 k x
  generalize (bA x).run r=r8 at dD ao
  have dR:∀X,Rel E r8 X→(match X with
   | .pointer none | .nilIface | .nilFunc=>(runtimePanic .nilDeref:Sem Next)
   | .func (.method name) first captured=>
     match (first[0]? :Option Value) with
     | some .nilIface=>runtimePanic .nilDeref
     | some (.iface t w)=>do
       if (←nilAhead ((←program).types.size+Made.depth) t w name) != some false then
        unsupported (.noEntry "op/nilCheck.the method's receiver behind this interface value is a nil pointer, or cannot be seen to be none, and the arguments act or may panic (ledger 612)")
       pure (.value (.func (.method name) first captured))
     | _=>pure (.value (.func (.method name) first captured))
   | x=>pure (.value x))=pure (.value X)∧v=r8:=by
   intro X cK
   cases r8<;>simp only [pW] at dD<;>try (cases dD;done)
   all_goals simp only [Option.some.injEq] at dD
   all_goals simp only [Rel] at cK
   · obtain ⟨p,_,rfl⟩:=cK;exact ⟨rfl,dD.symm⟩
   · rcases cK with ⟨_,_,rfl,_⟩ | ⟨_,_,_,_,_,rfl⟩<;>exact ⟨rfl,dD.symm⟩
   · obtain ⟨p,rfl,_⟩:=cK;exact ⟨rfl,dD.symm⟩
   · obtain ⟨_,p,rfl,_⟩:=cK;exact ⟨rfl,dD.symm⟩
  obtain ⟨U,rfl⟩:=dR _ ao
  exact e5 (m:=pure (a.eval x)) (by simp only [execOp];rw [pure_bind];exact U) (cC.plain s rfl ao) c9
 case binOp op t x y u=>
  obtain ⟨dD,rfl⟩:=aT.gA he
  clear he
  obtain ⟨Z,eC,cn⟩:=Om (P:=P) (ho:=x) (hp:=y) dD (c7 k x) (c7 k y) w
  exact e5 rfl (cC.plain s eC cn) c9
 case unOp op t x=>
  obtain ⟨dD,rfl⟩:=aT.gA he
  clear he
  obtain ⟨Z,eC,cn⟩:=ab9 (P:=P) dD (c7 k x) w
  exact e5 (m:=Op.unary op (a.eval x)) rfl (cC.plain s eC cn) c9
 case convert t u x=>exact e5 (m:=convert t u (a.eval x)) rfl (RJ s he (c7 k x)) c9
 case makeInterface t x=>
  cases aB:aX P t with
  | none=>rw [aB] at he;simp [cG.none] at he
  | some aL=>
    rw [aB] at he
    simp only at he
    cases af:Nat.beq (dW aL.a_) 5 with
    | true=>rw [af] at he;simp [cG.none] at he
    | false=>
      rw [af] at he
      simp only [cond_false,aT.val.injEq] at he;obtain ⟨rfl,rfl⟩:=he
      refine e5 (m:=Instr.makeInterface t (a.eval x)) rfl (cC.plain (Z:=.iface t (a.eval x)) s ?_ ?_) c9
      · have hu:=ez aB w
        simp only [Instr.makeInterface,Sem.run_bind,hu,Result.andThen_ok]
        cases bC:aL.a_<;>first
         | rfl
         | (rw [bC] at af;simp [dW] at af)
      · simp only [Rel];exact ⟨_,rfl,c7 k x⟩
 case makeFunc fn first dP=>
  cases fn<;>simp only at he<;>try (simp [cG.none] at he;done)
  rename_i f
  cases ax:(first.isEmpty&&!Nat.beq f cJ) with
  | false=>
    rw [ax] at he
    simp only [cond_false] at he
    cases hd:(dP.isEmpty&&!Nat.beq f cJ) with
    | false=>rw [hd] at he;simp [cG.none] at he
    | true=>
      rw [hd] at he
      simp only [cond_true,aT.val.injEq] at he;obtain ⟨rfl,rfl⟩:=he
      simp only [Bool.and_eq_true,Bool.not_eq_true'] at hd
      have C7:f≠cJ:=fun e=>by rw [e] at hd;exact absurd hd.2 (by decide)
      have C3:dP=#[]:=by simpa using hd.1
      subst C3
      refine e5 (m:=Instr.makeFunc (.func f) (first.map a.eval) #[]) (by simp [execOp]) (cC.plain s rfl ?_) c9
      simp only [Rel]
      exact ⟨C7,_,rfl,by rw [El];simpa using mZ k first.toList⟩
  | true=>
    rw [ax] at he
    simp only [cond_true,aT.val.injEq] at he;obtain ⟨rfl,rfl⟩:=he
    simp only [Bool.and_eq_true,Bool.not_eq_true'] at ax
    have C7:f≠cJ:=fun e=>by rw [e] at ax;exact absurd ax.2 (by decide)
    have C3:first=#[]:=by simpa using ax.1
    subst C3
    refine e5 (m:=Instr.makeFunc (.func f) #[] (dP.map a.eval)) (by simp [execOp]) (cC.plain s rfl ?_) c9
    simp only [Rel]
    exact .inl ⟨C7,_,rfl,by rw [El];simpa using mZ k dP.toList⟩
 case makeSlice t l c=>exact e5 (m:=Instr.makeSlice t (a.eval l) (a.eval c)) rfl (YI s (c7 k l) (c7 k c) he) c9
 case slice t x bI aC dk=>
  obtain ⟨dD,rfl⟩:=aT.gA he
  clear he
  obtain ⟨Z,eC,cn⟩:=abd (P:=P) dD (c7 k x) (zr k bI) (zr k aC) (zr k dk) w
  exact e5 (m:=Instr.sliceAt t (a.eval x) (bI.map a.eval) (aC.map a.eval) (dk.map a.eval)) rfl (cC.plain s eC cn) c9
 case fieldAddr t x i=>
  obtain ⟨dD,rfl⟩:=aT.gA he
  clear he
  obtain ⟨Z,eC,cn⟩:=Sz (P:=P) dD (c7 k x) w
  exact e5 (m:=Instr.fieldAt t (a.eval x) i) rfl (cC.plain s eC cn) c9
 case field t x i=>
  obtain ⟨dD,rfl⟩:=aT.gA he
  clear he
  obtain ⟨Z,eC,cn⟩:=SA (P:=P) dD (c7 k x) w
  exact e5 (m:=Instr.field t (a.eval x) i) rfl (cC.plain s eC cn) c9
 case indexAddr t x i=>
  obtain ⟨dD,rfl⟩:=aT.gA he
  clear he
  obtain ⟨Z,eC,cn⟩:=VT (P:=P) dD (c7 k x) (c7 k i) w
  exact e5 (m:=Instr.indexAt t (a.eval x) (a.eval i)) rfl (cC.plain s eC cn) c9
 case index t x i=>
  obtain ⟨dD,rfl⟩:=aT.gA he
  clear he
  obtain ⟨Z,eC,cn⟩:=VV (P:=P) dD (c7 k x) (c7 k i) w
  exact e5 (m:=Instr.index t (a.eval x) (a.eval i)) rfl (cC.plain s eC cn) c9
 case range t x=>exact e5 (m:=Instr.range t (a.eval x)) rfl (aak s (c7 k x) he) c9
 case next it tv=>
  cases tv with
  | true=>exact e5 (m:=Instr.next (a.eval it) true type) rfl (Y1 s (c7 k it) he) c9
  | false=>exact e5 (m:=Instr.next (a.eval it) false type) rfl (YZ s (c7 k it) he) c9
 case entry it=>exact e5 (m:=Instr.entry (a.eval it)) rfl (Se s (c7 k it) he) c9
 case lookup t x y ok=>
  obtain ⟨dD,rfl⟩:=aT.gA he
  clear he
  obtain ⟨Z,eC,cn⟩:=YB (P:=P) s (c7 k x) (c7 k y) dD
  exact e5 (m:=Instr.lookup t (a.eval x) (a.eval y) ok) rfl (cC.plain s eC cn) c9
 case mapEntry t m y=>exact e5 (m:=Instr.mapEntry t (a.eval m) (a.eval y)) rfl (YK s (c7 k m) (c7 k y) he) c9
 case entryStore t m st x=>
  cases cb:xU h ((bA m).run r) ((bA st).run r) ((bA x).run r) with
  | none=>rw [cb] at he;cases he
  | some U=>
    rw [cb] at he
    simp only [fW,aT.val.injEq] at he;obtain ⟨rfl,rfl⟩:=he
    obtain ⟨ak,cu,hg⟩:=Sd (P:=P) (t:=t) s (c7 k m) (c7 k st) (c7 k x) cb
    refine ⟨fun _ _=>trivial,?_⟩
    rw [mH (by intro c h;cases h)]
    have:execOp a.eval ⟨dst,.entryStore t m st x,type,pos,after,guard⟩=(do Instr.entryStore t (a.eval m) (a.eval st) (a.eval x);pure .skip):=rfl
    rw [this,Sem.run_bind,cu]
    exact c9 E undef ak (Env.le.refl E) (by simp [Rel]) hg
 case mapUpdate t m y x=>
  cases cb:(lO P t).run h ((bA m).run r) ((bA y).run r) ((bA x).run r) with
  | none=>rw [cb] at he;cases he
  | some U=>
    rw [cb] at he
    simp only [fW,aT.val.injEq] at he;obtain ⟨rfl,rfl⟩:=he
    obtain ⟨ak,cu,hg⟩:=MF (P:=P) s (c7 k m) (c7 k y) (c7 k x) cb
    refine ⟨fun _ _=>trivial,?_⟩
    rw [mH (by intro c h;cases h)]
    have:execOp a.eval ⟨dst,.mapUpdate t m y x,type,pos,after,guard⟩=(do Instr.mapUpdate t (a.eval m) (a.eval y) (a.eval x);pure .skip):=rfl
    rw [this,Sem.run_bind,cu]
    exact c9 E undef ak (Env.le.refl E) (by simp [Rel]) hg
 case insert t m y x=>
  cases cb:(lO P t).run h ((bA m).run r) ((bA y).run r) ((bA x).run r) with
  | none=>rw [cb] at he;cases he
  | some U=>
    rw [cb] at he
    simp only [fW,aT.val.injEq] at he;obtain ⟨rfl,rfl⟩:=he
    obtain ⟨ak,cu,hg⟩:=MF (P:=P) s (c7 k m) (c7 k y) (c7 k x) cb
    refine ⟨fun _ _=>trivial,?_⟩
    rw [mH (by intro c h;cases h)]
    have:execOp a.eval ⟨dst,.insert t m y x,type,pos,after,guard⟩=(do Instr.mapUpdate t (a.eval m) (a.eval y) (a.eval x);pure .skip):=rfl
    rw [this,Sem.run_bind,cu]
    exact c9 E undef ak (Env.le.refl E) (by simp [Rel]) hg
 case makeMap t x=>exact e5 (m:=Instr.makeMap t (x.map a.eval)) rfl (YH s (zr k x) he) c9
 case panic x=>
  exfalso
  unfold ES at he
  split at he<;>cases he
 case typeAssert x qg t ok=>
  cases aB:aX P t with
  | none=>rw [aB] at he;simp [cG.none] at he
  | some aL=>
    rw [aB] at he
    simp only at he
    cases af:Nat.beq (dW aL.a_) 5 with
    | true=>rw [af] at he;simp [cG.none] at he
    | false=>
      rw [af] at he
      simp only [cond_false] at he
      obtain ⟨dD,rfl⟩:=aT.gA he
      clear he
      obtain ⟨Z,eC,cn⟩:=N6 aB af (qg:=qg) (c7 k x) dD w
      exact e5 (m:=Instr.typeAssert (a.eval x) qg t ok) rfl (cC.plain s eC cn) c9
 case extract x i=>
  have ao:=c7 k x
  generalize (bA x).run r=r8 at he ao
  cases r8<;>simp only at he<;>try (cases he;done)
  obtain ⟨dD,rfl⟩:=aT.gA he
  clear he
  simp only [Rel] at ao
  obtain ⟨arr,cK,aj⟩:=ao
  obtain ⟨y,a1,cn⟩:=aj.get i v dD
  refine e5 (m:=Instr.extract (a.eval x) i) rfl (cC.plain (Z:=y) s ?_ cn) c9
  rw [cK]
  have:arr[i]? =some y:=by simpa using a1
  simp only [Instr.extract,this,Sem.run_pure]
 case call c=>
  obtain ⟨callee,args,types⟩:=c
  cases callee with
  | invoke _ _=>simp [nY,cG.none] at he
  | builtin b=>
    simp only [nY] at he
    obtain ⟨cs,gT⟩:∃cs,execOp a.eval ⟨dst,.call ⟨.builtin b,args,types⟩,type,pos,after,guard⟩=Go.builtin b types type cs (args.map a.eval):=by
     simp only [execOp,resolve,pure_bind,invoke]
     exact ⟨_,rfl⟩
    obtain ⟨m,hm,aD⟩:=Oz (P:=P) (ty:=type) (cs:=cs) s (mZ k args.toList) he
    refine e5 (m:=m) ?_ aD c9
    rw [gT,←hm,El]
  | value f=>
    simp only [nY] at he
    have ax:=c7 k f
    generalize Vr:(bA f).run r=r6 at he ax
    cases r6<;>simp only [V.tM] at he<;>try (cases he;done)
    rotate_left
    · rename_i g cs
      simp only [Rel] at ax
      refine ⟨fun _ _=>trivial,?_⟩
      rw [mH (by intro c h;cases h)]
      obtain ⟨aD,first,cK,aj⟩:=ax
      have l':=aZ.append aj (mZ k args.toList)
      have ma:=cp.fn _ _ _ _ _ _ aD he E w _ l' s
      have hex:execOp a.eval ⟨dst,.call ⟨.value f,args,types⟩,type,pos,after,guard⟩=callFunc g (first++args.map a.eval):=by
       simp only [execOp,resolve,cK,Deferred.ofValue,pure_bind,invoke]
       simp
      have e:first++args.map a.eval=(first.toList++args.toList.map a.eval).toArray:=by
       apply Array.ext';simp
      rw [hex,e]
      rcases ma with ⟨⟨fn,gk,af⟩,aq⟩ | ⟨ar,x,ak,aH,ai,ay,aK⟩
      case inr=>
       rw [aH]
       exact c9 ar x ak ai ay aK
      rw [p_ bt gk af]
      refine ⟨fun h=>by simp at h,pk.2 (aq.mono fun e ak aE=>?_)⟩
      obtain ⟨ar,x,rfl,ai,ay,aK⟩:=aE
      exact c9 ar x ak ai ay aK
    rename_i g cs
    simp only [Rel] at ax
    refine ⟨fun _ _=>trivial,?_⟩
    rw [mH (by intro c h;cases h)]
    rcases ax with ⟨aD,dP,cK,aj⟩ | ⟨aD,b,p,gT,ag,cK⟩
    · have l':=(mZ k args.toList).append aj
      have ma:=cp.fn _ _ _ _ _ _ aD he E w _ l' s
      have hex:execOp a.eval ⟨dst,.call ⟨.value f,args,types⟩,type,pos,after,guard⟩=callFunc g (args.map a.eval++dP):=by
       simp only [execOp,resolve,cK,Deferred.ofValue,pure_bind,invoke]
       simp
      have e:args.map a.eval++dP=(args.toList.map a.eval++dP.toList).toArray:=by
       apply Array.ext';simp
      rw [hex,e]
      rcases ma with ⟨⟨fn,gk,af⟩,aq⟩ | ⟨ar,x,ak,aH,ai,ay,aK⟩
      case inr=>
       rw [aH]
       exact c9 ar x ak ai ay aK
      rw [p_ bt gk af]
      refine ⟨fun h=>by simp at h,pk.2 (aq.mono fun e ak aE=>?_)⟩
      obtain ⟨ar,x,rfl,ai,ay,aK⟩:=aE
      exact c9 ar x ak ai ay aK
    · subst aD gT
      obtain ⟨sM,tmps,assign,body,ai,ay⟩:=cp.MT _ _ _ _ _ _ he E w _ p (mZ k args.toList) s ag
      have hex:execOp a.eval ⟨dst,.call ⟨.value f,args,types⟩,type,pos,after,guard⟩=Instr.yield p.bd (args.map a.eval):=by
       simp only [execOp,resolve,cK,Deferred.ofValue,pure_bind,invoke]
       simp
      have e:args.map a.eval=(args.toList.map a.eval).toArray:=by
       apply Array.ext';simp
      rw [hex,e,ai]
      refine ⟨fun h=>by simp at h,RoundIn.mono ay fun e ak aE=>?_⟩
      obtain ⟨ar,x,rfl,bs,cV,b3⟩:=aE
      exact c9 ar x ak bs cV b3
end
end Go.Proofs.YtkehcalakofigaaGreatDoor.aY
namespace Go.Proofs.YtkehcalakofigaaGreatDoor.aY
variable [Lay]
open Go Go.RowKit
section
variable {P:Program}
theorem Cz {E:Env} {an:Nat} {r:bp} {a:Act} (k:RegRel0 E an r a) {all:Array Oper} {j:Nat} {g:Oper} {d:Nat} (bG:all[j]? =some g) (aV:g.dst=some d) (CV:d<an) (q4:d≤top):
 (∀b,T.get .bad (aG d) r=.bool b→yielded all a.tmps j=some b)∧(∀ab,T.get .bad (aG d) r=.tuple ab→yielded all a.tmps j=none):=by
 have aH:=k.av d q4
 have aO:d<a.tmps.size:=by rw [k.size];exact CV
 have he:a.tmps[d]? =some (a.tmps.getD d undef):=by simp [Array.getD_eq_getD_getElem?,aO]
 refine ⟨fun b af=>?_,fun ab af=>?_⟩
 · rw [af] at aH
   simp only [Rel] at aH
   simp only [yielded,bG,Option.bind,aV,he,aH]
 · rw [af] at aH
   simp only [Rel] at aH
   obtain ⟨arr,aH,_⟩:=aH
   simp only [yielded,bG,Option.bind,aV,he,aH]
theorem Hh {rd:Option Nat} {au:Fr} {E:Env} {h aa:ae} {w:World} {call:c4} (bt:dJ P) (cp:fe P call) {o:Oper} {an:Nat} {r:bp} {a:Act} {v:V} (hm:jl o.op=true)
 (he:(eb P o).run call r h=.b' v aa) (k:RegRel0 E an r a) (s:aW au E h w) {K:Act→World→Prop} {Q:Exit→Act→World→Prop}
 (cP:∀ar x ak,E.le ar→Rel ar v x→aW au ar aa ak→Q (.panic (mD x)) a ak):o.wpIn (bQ rd) 0 P a w K Q:=by
 obtain ⟨dst,op,type,pos,after,guard⟩:=o
 cases op<;>simp only [jl] at hm<;>try (cases hm;done)
 all_goals simp only [eb] at he
 case panic x=>
  have ao:=c7 k x
  generalize (bA x).run r=r8 at he ao
  unfold ES at he
  cases r8<;>simp only at he<;>try (cases he;done)
  simp only [aT.b'.injEq] at he
  obtain ⟨rfl,rfl⟩:=he
  have vG:=ao
  simp only [Rel] at ao
  obtain ⟨Y,cK,ej⟩:=ao
  refine ⟨fun _ _=>trivial,?_⟩
  rw [mH (by intro c h;cases h)]
  have hex:(execOp a.eval ⟨dst,.panic x,type,pos,after,guard⟩).run P w=.halt (.panic (a.eval x)) w:=by
   simp only [execOp,cK,Instr.panic,Sem.run_bind]
   rfl
  rw [hex]
  exact cP E _ w (Env.le.refl E) vG s
 case call c=>
  obtain ⟨callee,args,types⟩:=c
  cases callee<;>simp only at hm<;>try (cases hm;done)
  rename_i f
  simp only [nY] at he
  have ax:=c7 k f
  generalize Vr:(bA f).run r=r6 at he ax
  cases r6<;>simp only [V.tM] at he<;>try (cases he;done)
  rotate_left
  · rename_i g cs
    simp only [Rel] at ax
    refine ⟨fun _ _=>trivial,?_⟩
    rw [mH (by intro c h;cases h)]
    obtain ⟨aD,first,cK,aj⟩:=ax
    have l':=aZ.append aj (mZ k args.toList)
    obtain ⟨⟨fn,gk,af⟩,aq⟩:=cp.b' _ _ _ _ _ _ aD he E w _ l' s
    have hex:execOp a.eval ⟨dst,.call ⟨.value f,args,types⟩,type,pos,after,guard⟩=callFunc g (first++args.map a.eval):=by
     simp only [execOp,resolve,cK,Deferred.ofValue,pure_bind,invoke]
     simp
    have e:first++args.map a.eval=(first.toList++args.toList.map a.eval).toArray:=by
     apply Array.ext';simp
    rw [hex,e,p_ bt gk af]
    refine ⟨fun h=>by simp at h,pk.2 (aq.mono fun e ak aE=>?_)⟩
    obtain ⟨ar,x,rfl,ai,ay,aK⟩:=aE
    exact cP ar x ak ai ay aK
  rename_i g cs
  simp only [Rel] at ax
  refine ⟨fun _ _=>trivial,?_⟩
  rw [mH (by intro c h;cases h)]
  rcases ax with ⟨aD,dP,cK,aj⟩ | ⟨aD,b,p,gT,ag,cK⟩
  · have l':=(mZ k args.toList).append aj
    obtain ⟨⟨fn,gk,af⟩,aq⟩:=cp.b' _ _ _ _ _ _ aD he E w _ l' s
    have hex:execOp a.eval ⟨dst,.call ⟨.value f,args,types⟩,type,pos,after,guard⟩=callFunc g (args.map a.eval++dP):=by
     simp only [execOp,resolve,cK,Deferred.ofValue,pure_bind,invoke]
     simp
    have e:args.map a.eval++dP=(args.toList.map a.eval++dP.toList).toArray:=by
     apply Array.ext';simp
    rw [hex,e,p_ bt gk af]
    refine ⟨fun h=>by simp at h,pk.2 (aq.mono fun e ak aE=>?_)⟩
    obtain ⟨ar,x,rfl,ai,ay,aK⟩:=aE
    exact cP ar x ak ai ay aK
  · subst aD
    exact absurd he (cp.MU _ _ _ _)
def kD (au:Fr) (E:Env) (an:Nat) (K:Act→World→Prop) (Q:Exit→Act→World→Prop):k9→Prop
 | .ok r h=>∀ar bf ak,E.le ar→ei ar an r bf→aW au ar h ak→K bf ak
 | .b' v r h=>∀ar bf ak x,E.le ar→ei ar an r bf→Rel ar v x→aW au ar h ak→Q (.panic (mD x)) bf ak
 | .fail=>False
theorem kD.up {au:Fr} {E ar:Env} (h:E.le ar) {an:Nat} {K:Act→World→Prop} {Q:Exit→Act→World→Prop} {x:k9} (k:kD au E an K Q x):kD au ar an K Q x:=by
 cases x with
 | ok r a8=>exact fun bM a w ad=>k bM a w (h.trans ad)
 | b' v r a8=>exact fun bM a w x ad=>k bM a w x (h.trans ad)
 | fail=>exact k
theorem K0 {rd:Option Nat} {au:Fr} {E:Env} {h:ae} {w:World} {call:c4} (bt:dJ P) (cp:fe P call) (cZ:fp P call) {all:Array Oper} {i:Nat} {o:Oper} (aC:all[i]? =some o) {an:Nat} {r:bp} {a:Act}
 (aV:ed an o.dst=true) (k:ei E an r a) (s:aW au E h w) {K:Act→World→Prop} {Q:Exit→Act→World→Prop} (hw:Region.wanted o (yielded all a.tmps)=true)
 (ag:kD au E an K Q (zq (jl o.op) (eb P o) (ey o.dst) call r h)):wpOpIn (bQ rd) 0 P all Q i K a w:=by
 simp only [wpOpIn,aC,hw,if_true]
 unfold zq at ag
 cases aP:(eb P o).run call r h with
 | fail=>rw [aP] at ag;exact ag.elim
 | val v U=>
   rw [aP] at ag
   exact Hk bt cp cZ aP k.toRegRel0 s fun ar x ak ai ay aK=>ag ar _ ak ai ((k.mono ai).put aV ay) aK
 | b' v U=>
   rw [aP] at ag
   simp only at ag
   cases hm:jl o.op with
   | false=>rw [hm] at ag;exact ag.elim
   | true=>
     rw [hm] at ag
     exact Hh bt cp hm aP k.toRegRel0 s fun ar x ak ai ay aK=>ag ar a ak x ai (k.mono ai) ay aK
theorem ME {rd:Option Nat} {au:Fr} {E:Env} {h:ae} {w:World} {all:Array Oper} {i:Nat} {o:Oper} (aC:all[i]? =some o) {an:Nat} {r:bp} {a:Act}
 (aV:ed an o.dst=true) (k:ei E an r a) (s:aW au E h w) {K:Act→World→Prop} {Q:Exit→Act→World→Prop} (hw:Region.wanted o (yielded all a.tmps)=false)
 (ag:kD au E an K Q (.ok ((ey o.dst).run r (.tuple [])) h)):wpOpIn (bQ rd) 0 P all Q i K a w:=by
 simp only [wpOpIn,aC,hw,Bool.false_eq_true,if_false]
 exact ⟨fun _ _=>trivial,ag E _ w (Env.le.refl E) (k.put aV (by simp only [Rel];exact ⟨#[],rfl,rfl⟩)) s⟩
theorem zp {rd:Option Nat} {au:Fr} {E:Env} {h:ae} {w:World} {call:c4} (bt:dJ P) (cp:fe P call) (cZ:fp P call) {all:Array Oper} {i:Nat} {o:Oper} (aC:all[i]? =some o) {an:Nat} {r:bp} {a:Act}
 (aV:ed an o.dst=true) (k:ei E an r a) (s:aW au E h w) {K:Act→World→Prop} {Q:Exit→Act→World→Prop}
 (ag:kD au E an K Q ((tO P an all o).run call r h)):wpOpIn (bQ rd) 0 P all Q i K a w:=by
 unfold tO at ag
 cases aD:o.guard with
 | none=>
   rw [aD] at ag
   exact K0 bt cp cZ aC aV k s (by simp [Region.wanted,aD]) ag
 | some mu=>
   obtain ⟨j,want⟩:=mu
   rw [aD] at ag
   simp only at ag
   cases bG:all[j]? with
   | none=>rw [bG] at ag;exact ag.elim
   | some g=>
     rw [bG] at ag
     simp only at ag
     cases h6:g.dst with
     | none=>rw [h6] at ag;exact ag.elim
     | some d=>
       rw [h6] at ag
       simp only at ag
       cases aq:(Nat.blt d an&&Nat.ble d top) with
       | false=>rw [aq] at ag;exact ag.elim
       | true=>
         rw [aq] at ag
         simp only [cond_true,Ip,lk] at ag
         simp only [Bool.and_eq_true,Nat.blt_eq,Nat.ble_eq] at aq
         obtain ⟨g1,g2⟩:=Cz k.toRegRel0 bG h6 aq.1 aq.2
         cases bw:T.get .bad (aG d) r<;>rw [bw] at ag<;>simp only at ag<;>try (exact ag.elim)
         · rename_i b
           have a1:=g1 b bw
           cases af:(bif want then b else !b) with
           | true=>
             rw [af] at ag
             simp only [cond_true] at ag
             refine K0 bt cp cZ aC aV k s ?_ ag
             simp only [Region.wanted,aD,a1]
             cases want<;>cases b<;>simp_all
           | false=>
             rw [af] at ag
             simp only [cond_false] at ag
             refine ME aC aV k s ?_ ag
             simp only [Region.wanted,aD,a1]
             cases want<;>cases b<;>simp_all
         · rename_i ab
           have a1:=g2 ab bw
           refine ME aC aV k s ?_ ag
           simp only [Region.wanted,aD,a1]
           rfl
theorem iR.list {E:Env} {v:V} {ds:List Deferred} (k:iR E v ds):kz E v.list ds:=by
 cases v<;>first
  | exact k
theorem ZL {rd:Option Nat} {au:Fr} {E:Env} {h:ae} {w:World} {call:c4} (bt:dJ P) (cp:fe P call) (cZ:fp P call) {all:Array Oper} {i:Nat} {o:Oper} (aC:all[i]? =some o) {an:Nat} {r:bp} {a:Act}
 (aH:rd=none∨EB o=true) (k:ei E an r a) (s:aW au E h w) {K:Act→World→Prop} {Q:Exit→Act→World→Prop}
 (ag:kD au E an K Q ((zo P an all o).run call r h)):wpOpIn (bQ rd) 0 P all Q i K a w:=by
 unfold zo at ag
 cases aV:ed an o.dst with
 | false=>rw [aV] at ag;exact ag.elim
 | true=>
   rw [aV] at ag
   simp only [cond_true] at ag
   obtain ⟨dst,op,type,pos,after,guard⟩:=o
   cases op with
   | defer c=>
     rcases aH with rfl | aH
     case inr=>cases aH
     simp only at ag
     cases guard with
     | some _=>exact ag.elim
     | none=>
       simp only at ag
       obtain ⟨callee,args,types⟩:=c
       simp only [Hr] at ag
       cases callee<;>simp only at ag<;>try (exact ag.elim)
       rename_i f
       unfold Hs at ag
       have ax:=c7 k.toRegRel0 f
       generalize (bA f).run r=r6 at ag ax
       cases r6<;>simp only at ag<;>try (exact ag.elim)
       rename_i g cs
       cases a1:Nat.beq g cJ with
       | true=>rw [a1] at ag;exact ag.elim
       | false=>
         rw [a1] at ag
         simp only [cond_false] at ag
         have yu:g≠cJ:=fun e=>by rw [e] at a1;exact absurd a1 (by decide)
         simp only [Rel] at ax
         rcases ax with ⟨_,dP,cK,aj⟩ | ⟨aD,_⟩
         case inr=>exact absurd aD yu
         simp only [wpOpIn,aC,Region.wanted,if_true]
         refine ⟨fun _ _=>trivial,?_⟩
         have hex:((Oper.mk dst (.defer ⟨.value f,args,types⟩) type pos after none).semAt (bQ none).round a.eval).run P w=.ok (.defer {target:=.fn (.func g) dP,args:=#[]++args.map a.eval}) w:=by
          simp only [Oper.semAt_none,execOp,resolve,cK,Deferred.ofValue,pure_bind]
          rfl
         rw [hex]
         refine ag E _ w (Env.le.refl E) (ei.put ?_ aV (by simp only [Rel];exact ⟨#[],rfl,rfl⟩)) s
         refine ⟨⟨k.size,fun t aB=>?_⟩,?_⟩
         rotate_left
         · rw [T.gj,if_pos rfl]
           simp only [iR,kz]
           refine ⟨_,_,rfl,⟨yu,dP,rfl,?_⟩,k.defers.list⟩
           have:=(mZ k.toRegRel0 args.toList).append aj
           simpa using this
         · rw [T.gj,if_neg (fun e=>rN aB e.symm)]
           exact k.av t aB
   | binOp op t x y u=>
     simp only at ag
     cases guard with
     | some g=>exact zp bt cp cZ aC aV k s ag
     | none=>
       simp only at ag
       cases i_:zB P op t with
       | none=>rw [i_] at ag;exact zp bt cp cZ aC aV k s ag
       | some neg=>
         rw [i_] at ag
         simp only [Lq] at ag
         cases aE:lJ h ((bA x).run r) ((bA y).run r) with
         | none=>rw [aE] at ag;exact zp bt cp cZ aC aV k s ag
         | some b=>
           rw [aE] at ag
           simp only [wpOpIn,aC,Region.wanted,if_true]
           obtain ⟨Z,eC,cn⟩:=Z8 (P:=P) (ho:=x) (hp:=y) s i_ aE (c7 k.toRegRel0 x) (c7 k.toRegRel0 y)
           exact e5 rfl (cC.plain s eC cn) fun ar v ak ai ay aK=>ag ar _ ak ai ((k.mono ai).put aV ay) aK
   | _=>exact zp bt cp cZ aC aV k s ag
theorem K1 {rd:Option Nat} {au:Fr} {call:c4} (bt:dJ P) (cp:fe P call) (cZ:fp P call) {all:Array Oper} {an:Nat} {Q:Exit→Act→World→Prop}:∀(l:List Oper) (i:Nat),(∀j,l[j]? =all[i+j]?)→(rd=none∨∀o ∈ l,EB o=true)→
 ∀(E:Env) (r:bp) (h:ae) (a:Act) (w:World),kD au E an (Q .normal) Q ((wu P an all l).run call r h)→ei E an r a→aW au E h w→
 wpOpsIn (bQ rd) 0 P all Q (List.range' i l.length) a w
 | [],i,_,_,E,r,h,a,w,ag,k,s=>by
   simp only [wu] at ag
   simp only [List.length_nil,List.range'_zero,wpOpsIn]
   exact ag E a w (Env.le.refl E) k s
 | o::os,i,aj,aH,E,r,h,a,w,ag,k,s=>by
   simp only [wu,L5] at ag
   have aC:all[i]? =some o:=by have:=aj 0;simpa using this.symm
   rw [List.length_cons,List.range'_succ,wpOpsIn_cons]
   refine ZL bt cp cZ aC (aH.imp id fun h=>h o (by simp)) k s ?_
   cases U:(zo P an all o).run call r h with
   | fail=>rw [U] at ag;exact ag
   | b' v bs nc=>rw [U] at ag;exact ag
   | ok bs nc=>
     rw [U] at ag
     simp only at ag
     intro ar bf ak ai ay aK
     refine K1 bt cp cZ os (i+1) (fun j=>?_) (aH.imp id fun h bR fQ=>h bR (by simp [fQ])) ar bs nc bf ak (ag.up ai) ay aK
     have:=aj (j+1)
     simp only [List.getElem?_cons_succ] at this
     rw [this]
     congr 1
     omega
end
end Go.Proofs.YtkehcalakofigaaGreatDoor.aY
namespace Go.Proofs.YtkehcalakofigaaGreatDoor.aY
variable [Lay]
open Go Go.RowKit
theorem HR {a b:V} (h:xX a b=true):a=b:=by
 cases a<;>cases b<;>simp only [xX] at h<;>first
  | rfl
  | (cases h;done)
  | (rename_i x y;cases x<;>cases y<;>simp_all;done)
  | (rename_i k x l y
     simp only [Bool.and_eq_true] at h
     have U:=pq h.1
     have ad:=h.2
     rw [jz,beq_iff_eq] at ad
     rw [U,ad];done)
  | (rw [qE,beq_iff_eq] at h;rw [h];done)
  | (simp only [Bool.and_eq_true,Nat.beq_eq] at h
     obtain ⟨U,ad,aI,bq⟩:=h
     rw [aN.jz U,ad,aI,bq];done)
  | (simp only [Bool.and_eq_true,Nat.beq_eq] at h
     rw [aN.jz h.1,h.2];done)
  | (rw [aN.jz h];done)
  | (simp only [Bool.and_eq_true,Nat.beq_eq,List.isEmpty_iff] at h
     obtain ⟨U,ad,aI⟩:=h
     rw [U,ad,aI];done)
  | (simp only [Bool.and_eq_true,List.isEmpty_iff] at h
     rw [h.1,h.2];done)
theorem Cl {f:V→V→Bool} (ax:∀a b,f a b=true→a=b):∀{a b:List V},sI f a b=true→a=b
 | [],[],_=>rfl
 | [],_::_,h=>by cases h
 | _::_,[],h=>by cases h
 | a::x,b::y,h=>by
   simp only [sI] at h
   cases U:f a b with
   | false=>rw [U] at h;cases h
   | true=>
     rw [U] at h
     rw [ax a b U,Cl ax h]
theorem Oj {c x:Bool} (h:(bif c then x else false)=true):c=true∧x=true:=by
 cases c with
 | false=>cases h
 | true=>exact ⟨rfl,h⟩
theorem HS:∀(d:Nat) (a b:V),qQ d a b=true→a=b
 | 0,a,b,h=>HR h
 | d+1,a,b,h=>by
   have bh:=HS d
   cases a<;>simp only [qQ] at h<;>first
    | exact HR h
    | (cases b<;>simp only at h<;>first
        | (cases h;done)
        | rfl
        | (rw [Cl bh h];done)
        | (obtain ⟨U,ad⟩:=Oj h
           rw [Nat.beq_eq] at U
           rw [U]
           first
            | rw [Cl bh ad]
            | rw [bh _ _ ad]))
theorem Cm {a b:V} (h:u6 a b=true):a=b:=HS 5 a b h
theorem uP (m i:Nat):eH m i=m.testBit i:=by
 rw [Nat.testBit_eq_decide_div_mod_eq]
 unfold eH
 have e:Nat.mod (Nat.shiftRight m i) 2=m / 2 ^ i % 2:=by
  show (m >>> i) % 2=_
  rw [Nat.shiftRight_eq_div_pow]
 rw [e,Bool.eq_iff_iff,Nat.beq_eq,decide_eq_true_eq]
theorem Em {c':List Nat} {i:Nat}:∀{es:List Edge},eH (pU c' es) i=true→∃e ∈ es,qF e=true∧(e.on=i∨eH ((c'[e.on]?).getD 0) i=true)
 | [],h=>by simp [pU,uP] at h
 | e::es,h=>by
   simp only [pU] at h
   cases af:qF e with
   | false=>
     rw [af] at h
     obtain ⟨cN,U,ad⟩:=Em (es:=es) h
     exact ⟨cN,by simp [U],ad⟩
   | true=>
     rw [af] at h
     simp only [cond_true,uP] at h
     have aa:((1 <<< e.on||| (c'[e.on]?).getD 0)||| pU c' es).testBit i=true:=h
     rw [Nat.testBit_or,Nat.testBit_or,Bool.or_eq_true,Bool.or_eq_true] at aa
     rcases aa with (U | U) | U
     · refine ⟨e,by simp,af,.inl ?_⟩
       rw [Nat.testBit_shiftLeft] at U
       simp only [Bool.and_eq_true,decide_eq_true_eq] at U
       have:=U.2
       rw [Nat.testBit_one_eq_true_iff_self_eq_zero] at this
       omega
     · exact ⟨e,by simp,af,.inr (by rw [uP];exact U)⟩
     · rw [←uP] at U
       obtain ⟨cN,ai,ay⟩:=Em (es:=es) U
       exact ⟨cN,by simp [ai],ay⟩
def mO (ops:Array Oper) (L:Nat→Prop):Prop:=∀k o e,L k→ops[k]? =some o→e ∈ o.after.toList→qF e=true→L e.on
theorem v_ {ops:Array Oper} {L:Nat→Prop} (pv:mO ops L):∀(os:List Oper) (c':List Nat),(∀j,os[j]? =ops[c'.length+j]?)→
 (∀k m i,c'[k]? =some m→eH m i=true→L k→L i)→∀k m i,(dM c' os)[k]? =some m→eH m i=true→L k→L i
 | [],c',_,h,k,m,i,az,af,cy=>h k m i az af cy
 | o::os,c',lu,h,k,m,i,az,af,cy=>by
   simp only [dM] at az
   refine v_ pv os (c'++[pU c' o.after.toList]) (fun j=>?_) (fun k m i az af cy=>?_) k m i az af cy
   · have:=lu (j+1)
     simp only [List.getElem?_cons_succ] at this
     rw [this]
     congr 1
     simp
     omega
   · by_cases aO:k<c'.length
     · rw [List.getElem?_append_left aO] at az
       exact h k m i az af cy
     · rw [List.getElem?_append_right (by omega)] at az
       have vm:k-c'.length=0:=by
        cases bn:k-c'.length with
        | zero=>rfl
        | succ n=>rw [bn] at az;simp at az
       rw [vm] at az
       simp only [List.getElem?_cons_zero,Option.some.injEq] at az
       subst az
       have yy:k=c'.length:=by omega
       have aP:ops[k]? =some o:=by have:=lu 0;simp only [List.getElem?_cons_zero,Nat.add_zero] at this;rw [yy];exact this.symm
       obtain ⟨e,he,CP,f'⟩:=Em af
       have Iy:=pv k o e cy aP he CP
       rcases f' with rfl | f'
       · exact Iy
       · cases hm:c'[e.on]? with
         | none=>rw [hm] at f';simp [uP] at f'
         | some cI=>rw [hm] at f';exact h e.on cI i hm f' Iy
theorem mL {f:Nat→Nat→Oper→Bool}:∀{k:Nat} {ms:List Nat} {os:List Oper},ky f k ms os=true→∀j o,os[j]? =some o→∃m,ms[j]? =some m∧f (k+j) m o=true
 | _,_,[],_,j,o,h=>by simp at h
 | _,[],_::_,h,_,_,_=>by cases h
 | k,m::ms,bR::os,h,j,o,aP=>by
   simp only [ky,Bool.and_eq_true] at h
   cases j with
   | zero=>simp only [List.getElem?_cons_zero,Option.some.injEq] at aP;subst aP;exact ⟨m,rfl,h.1⟩
   | succ j=>
     obtain ⟨cI,U,ad⟩:=mL h.2 j o (by simpa using aP)
     exact ⟨cI,by simpa using U,by rw [show k + (j+1)=k+1+j from by omega];exact ad⟩
theorem FO {f:Nat→Nat→Oper→Bool}:∀{k:Nat} {ms:List Nat} {os:List Oper},ms.length=os.length→(∀j m o,ms[j]? =some m→os[j]? =some o→f (k+j) m o=true)→ky f k ms os=true
 | _,[],[],_,_=>rfl
 | _,[],_::_,h,_=>by simp at h
 | _,_::_,[],h,_=>by simp at h
 | k,m::ms,o::os,h,ax=>by
   simp only [ky,Bool.and_eq_true]
   refine ⟨ax 0 m o rfl rfl,FO (by simpa using h) fun j cI bR U ad=>?_⟩
   have:=ax (j+1) cI bR (by simpa using U) (by simpa using ad)
   rw [show k+1+j=k + (j+1) from by omega]
   exact this
theorem En:∀(os:List Oper) (c':List Nat),(dM c' os).length=c'.length+os.length
 | [],c'=>rfl
 | o::os,c'=>by simp [dM,En os];omega
section
variable {P:Program}
theorem Hj {o:Oper} {call:c4} {r:bp} {h aa:ae} {v:V} (aE:dU P o.op=false) (he:(eb P o).run call r h=.val v aa):aa=h:=by
 obtain ⟨dst,op,type,pos,after,guard⟩:=o
 cases op<;>simp only [dU] at aE<;>try (cases aE;done)
 all_goals simp only [eb] at he
 case convert s d x=>
  unfold mT at he
  cases aR:aX P s with
  | none=>rw [aR] at he;cases he
  | some qa=>
    cases aV:aX P d with
    | none=>rw [aV] at aE;cases aE
    | some lh=>
      rw [aR,aV] at he
      rw [aV] at aE
      simp only at he aE
      cases hu:lh.a_ with
      | int k=>
        rw [hu] at he
        obtain ⟨bl,n,_,U⟩:=wm he
        simp only [aT.val.injEq] at U
        exact U.2.symm
      | slice e=>rw [hu] at aE;cases aE
      | string=>
        rw [hu] at he
        simp only at he
        have other:∀x:V,(match x with
         | .str s=>aT.val (.str s) h
         | .int _ n=>.val (.str (Utf8.encode n).data.toList) h
         | _=>.fail)=.val v aa→aa=h:=by
         intro x he
         cases x<;>simp only at he<;>first
          | (cases he;done)
          | (simp only [aT.val.injEq] at he;exact he.2.symm)
        cases Jr:qa.a_ with
        | slice e=>
          rw [Jr] at he
          simp only at he
          cases b5:aX P e with
          | none=>rw [b5] at he;cases he
          | some bb=>
            rw [b5] at he
            simp only at he
            have abx:∀b off len,qe b off len h=.val v aa→aa=h:=by
             intro b off len he
             unfold qe at he
             cases aD:h.get b<;>rw [aD] at he<;>simp only [bS.lL] at he<;>try (cases he;done)
             all_goals
              obtain ⟨_,ad⟩:=ix he
              cases Vn:k3 (fP _ off len)<;>rw [Vn] at ad<;>first
               | (cases ad;done)
               | (simp only [aT.val.injEq] at ad;exact ad.2.symm)
            cases ek:bb.a_ with
            | int vR=>
              rw [ek] at he
              cases vR<;>simp only at he<;>try (cases he;done)
              simp only [pn] at he
              cases ao:(bA x).run r<;>rw [ao] at he<;>simp only at he<;>first
               | (cases he;done)
               | exact abx _ _ _ he
               | (simp only [aT.val.injEq] at he;exact he.2.symm)
            | _=>rw [ek] at he;cases he
        | _=>rw [Jr] at he;exact other _ he
      | _=>rw [hu] at he;cases he
 case call c=>
  obtain ⟨callee,args,types⟩:=c
  cases callee<;>simp only at aE<;>try (cases aE;done)
  rename_i b
  simp only [nY] at he
  cases b<;>simp only at aE<;>try (cases aE;done)
  · simp only [nW] at he
    cases eo:types.toList with
    | nil=>rw [eo] at he;simp [eN.none] at he
    | cons t b7=>
      cases b7 with
      | cons _ _=>rw [eo] at he;simp [eN.none] at he
      | nil=>
        rw [eo] at he
        simp only at he
        cases aB:aX P t with
        | none=>rw [aB] at he;simp [eN.none] at he
        | some aL=>
          rw [aB] at he
          rw [eo] at aE
          simp only [D8,aB] at aE
          simp only [aE,cond_false] at he
          split at he
          · exact (aT.gA he).2
          · cases he
  · exact (aT.gA he).2
  · exact (aT.gA he).2
 case move=>simp only [aT.val.injEq] at he;exact he.2.symm
 case assign=>simp only [aT.val.injEq] at he;exact he.2.symm
 case pick c a b=>
  split at he
  · simp only [aT.val.injEq] at he;exact he.2.symm
  · cases he
 case makeFunc fn first dP=>
  cases fn<;>simp only at he<;>try (simp [cG.none] at he;done)
  rename_i f
  cases ax:(first.isEmpty&&!Nat.beq f cJ)<;>rw [ax] at he
  · simp only [cond_false] at he
    cases hd:(dP.isEmpty&&!Nat.beq f cJ)<;>rw [hd] at he
    · simp [cG.none] at he
    · simp only [cond_true,aT.val.injEq] at he;exact he.2.symm
  · simp only [cond_true,aT.val.injEq] at he;exact he.2.symm
 case typeAssert x qg t ok=>
  cases aB:aX P t with
  | none=>rw [aB] at he;simp [cG.none] at he
  | some aL=>
    rw [aB] at he
    simp only at he
    cases af:Nat.beq (dW aL.a_) 5<;>rw [af] at he
    · exact (aT.gA he).2
    · simp [cG.none] at he
 case makeInterface t x=>
  cases aB:aX P t with
  | none=>rw [aB] at he;simp [cG.none] at he
  | some aL=>
    rw [aB] at he
    simp only at he
    cases af:Nat.beq (dW aL.a_) 5<;>rw [af] at he
    · simp only [cond_false,aT.val.injEq] at he;exact he.2.symm
    · simp [cG.none] at he
 case extract x i=>
  split at he
  · exact (aT.gA he).2
  · cases he
 all_goals exact (aT.gA he).2
theorem aT.rM {h aa:ae} {x:Option V} {v:V} (he:aT.of h x=.val v aa) (H:ae):aT.of H x=.val v H:=by
 rw [(aT.gA he).1];rfl
theorem Hi {o:Oper} {call:c4} {r:bp} {h aa:ae} {v:V} (aE:dU P o.op=false) (aj:looks o.op=false) (he:(eb P o).run call r h=.val v aa) (H:ae):(eb P o).run call r H=.val v H:=by
 obtain ⟨dst,op,type,pos,after,guard⟩:=o
 cases op<;>simp only [dU] at aE<;>try (cases aE;done)
 all_goals simp only [looks] at aj<;>try (cases aj;done)
 all_goals simp only [eb] at he ⊢
 case call c=>
  obtain ⟨callee,args,types⟩:=c
  cases callee<;>simp only at aE<;>try (cases aE;done)
  rename_i b
  simp only [nY] at he ⊢
  cases b<;>simp only at aE<;>try (cases aE;done)
  · simp only [nW] at he ⊢
    cases eo:types.toList with
    | nil=>rw [eo] at he;simp [eN.none] at he
    | cons t b7=>
      cases b7 with
      | cons _ _=>rw [eo] at he;simp [eN.none] at he
      | nil=>
        rw [eo] at he
        simp only at he ⊢
        cases aB:aX P t with
        | none=>rw [aB] at he;simp [eN.none] at he
        | some aL=>
          rw [aB] at he
          rw [eo] at aE
          simp only [D8,aB] at aE
          simp only [aE,cond_false] at he ⊢
          split at he
          · exact aT.rM he H
          · cases he
  · exact aT.rM he H
  · exact aT.rM he H
 case move=>simp only [aT.val.injEq] at he;rw [he.1]
 case assign=>simp only [aT.val.injEq] at he;rw [he.1]
 case pick c a b=>
  split at he
  · simp only [aT.val.injEq] at he;rw [he.1]
  · cases he
 case makeFunc fn first dP=>
  cases fn<;>simp only at he ⊢<;>try (simp [cG.none] at he;done)
  rename_i f
  cases ax:(first.isEmpty&&!Nat.beq f cJ)<;>rw [ax] at he
  · simp only [cond_false] at he ⊢
    cases hd:(dP.isEmpty&&!Nat.beq f cJ)<;>rw [hd] at he
    · simp [cG.none] at he
    · simp only [cond_true,aT.val.injEq] at he ⊢;exact ⟨he.1,trivial⟩
  · simp only [cond_true,aT.val.injEq] at he ⊢;exact ⟨he.1,trivial⟩
 case typeAssert x qg t ok=>
  cases aB:aX P t with
  | none=>rw [aB] at he;simp [cG.none] at he
  | some aL=>
    rw [aB] at he
    simp only at he ⊢
    cases af:Nat.beq (dW aL.a_) 5<;>rw [af] at he
    · exact aT.rM he H
    · simp [cG.none] at he
 case makeInterface t x=>
  cases aB:aX P t with
  | none=>rw [aB] at he;simp [cG.none] at he
  | some aL=>
    rw [aB] at he
    simp only at he ⊢
    cases af:Nat.beq (dW aL.a_) 5<;>rw [af] at he
    · simp only [cond_false,aT.val.injEq] at he ⊢;exact ⟨he.1,trivial⟩
    · simp [cG.none] at he
 case extract x i=>
  split at he
  · exact aT.rM he H
  · cases he
 all_goals exact aT.rM he H
end
end Go.Proofs.YtkehcalakofigaaGreatDoor.aY
namespace Go.Proofs.YtkehcalakofigaaGreatDoor.aY
variable [Lay]
open Go Go.RowKit
section
variable {P:Program}
def F9 (P:Program) (E:Env) (m:Sem Value) (v:V) (h aa:ae):Prop:=
 ∃k,aa=h.new k∧True∧∀w,∃X pY,m.run P w=.ok X {w with heap:=w.heap.push pY}∧
  ∀ar,E.le ar→ar (aG h.next)=some ⟨w.heap.size,0,0⟩→Rel ar v X∧∀B,B≤w.heap.size→e7 B ar {w with heap:=w.heap.push pY} (aG h.next) k
theorem Ev {E:Env} {h aa:ae} {ab:List V} {l:List Value} (aj:aZ E ab l) (he:e4 h ab=some aa) (t:TypeId):
 ∃k,aa=h.new k∧True∧∀w,(newRow t l.toArray).run P w=.ok ⟨w.heap.size,0,none⟩ {w with heap:=w.heap.push (.cells l.toArray t)}∧
  ∀ar,E.le ar→ar (aG h.next)=some ⟨w.heap.size,0,0⟩→∀B,B≤w.heap.size→e7 B ar {w with heap:=w.heap.push (.cells l.toArray t)} (aG h.next) k:=by
 unfold e4 at he
 obtain ⟨aq,he⟩:=dG he
 rw [Nat.ble_eq] at aq
 cases he
 refine ⟨_,rfl,trivial,fun w=>⟨by simp [newRow],fun ar hle db B cS=>?_⟩⟩
 have:=x' (aZ.mono hle _ _ aj) aq #[]
 rw [Array.append_empty] at this
 exact ⟨aq,_,_,t,(0,0),db,cS,by simp,.inr (Nat.le_refl _),fun _=>rfl,fun h=>absurd rfl h,this⟩
theorem Oy {E:Env} {h aa:ae} {t:TypeId} {n:Nat} {a':List (Nat × V)} {hH:List (Nat × Value)} {v:V} (ag:nO E a' hH) (he:(qG P t n).run a' h=.val v aa):
 F9 P E (Instr.buildSlice t n hH.toArray) v h aa:=by
 unfold qG at he
 cases aB:aX P t with
 | none=>rw [aB] at he;cases he
 | some aL=>
   rw [aB] at he
   simp only at he
   have hu:=ez aB
   cases bC:aL.a_ with
   | slice e=>
     rw [bC] at he hu
     simp only at he
     cases b5:aX P e with
     | none=>rw [b5] at he;cases he
     | some bb=>
       rw [b5] at he
       simp only at he
       cases bn:bb.zero with
       | none=>rw [bn] at he;cases he
       | some z=>
         rw [bn] at he
         simp only at he
         cases aq:(Nat.ble (n * bb.size) 1000000&&Nat.beq z.cells.length bb.size) with
         | false=>rw [aq] at he;cases he
         | true=>
           rw [aq] at he
           simp only [cond_true] at he
           simp only [Bool.and_eq_true,Nat.ble_eq,Nat.beq_eq] at aq
           cases ax:j9 (fun i=>some (i * bb.size,bb.size)) (gM z.cells n) a' with
           | none=>rw [ax] at he;cases he
           | some cs=>
             rw [ax] at he
             simp only at he
             cases a7:e4 h cs with
             | none=>rw [a7] at he;cases he
             | some U=>
               rw [a7] at he
               simp only [aT.val.injEq] at he
               obtain ⟨rfl,rfl⟩:=he
               obtain ⟨x,ao,nk,nm⟩:=qh (P:=P) (E:=E) b5 bn ⟨#[],fun _ _=>0,0,default,#[]⟩
               have rv:x.cells.size=bb.size:=by rw [nm,aq.2]
               have rq:=wJ nk n
               rw [rv] at rq
               obtain ⟨b,hc,kJ⟩:=u7 (a:=(Array.range (n * bb.size)).map (x.cells[· % x.cells.size]!)) ag (by rw [rv];exact rq) ax
               obtain ⟨k,g1,g2,g3⟩:=Ev (P:=P) kJ a7 e
               refine ⟨k,g1,g2,fun w=>⟨.slice (some ⟨w.heap.size,0,none⟩) n n,.cells b e,?_,fun ar hle db=>⟨?_,?_⟩⟩⟩
               · have rh:¬16777216<n * bb.size:=by omega
                 have kd:(newRow e b).run P w=.ok ⟨w.heap.size,0,none⟩ {w with heap:=w.heap.push (.cells b e)}:=by simpa using (g3 w).1
                 by_cases a6:n * bb.size=0
                 · have CN:Instr.fill (fun i=>some (i * bb.size,bb.size)) ((Array.range (n * bb.size)).map ((#[]:Array Value)[· % 0]!)) hH=some b:=by
                    have aF:(Array.range (n * bb.size)).map ((#[]:Array Value)[· % 0]!)=(Array.range (n * bb.size)).map (x.cells[· % x.cells.size]!):=by
                     rw [a6];simp
                    rw [aF];exact hc
                   have CO:Instr.fill (fun i=>some (i * bb.size,bb.size)) ((Array.range (n * bb.size)).map (fun x=>(#[]:Array Value)[x % (#[]:Array Value).size]!)) hH=some b:=CN
                   simp only [Instr.buildSlice,Sem.run_bind,hu,Result.andThen_ok,hW b5,Sem.run_ite]
                   rw [if_neg rh]
                   simp only [Sem.run_pure,Result.andThen_ok,if_pos a6]
                   rw [CO]
                   simp only [Sem.run_bind,kd,Result.andThen_ok,Sem.run_pure]
                 · simp only [Instr.buildSlice,Sem.run_bind,hu,Result.andThen_ok,hW b5,Sem.run_ite]
                   rw [if_neg rh]
                   simp only [Sem.run_pure,Result.andThen_ok,if_neg a6,ao]
                   rw [hc]
                   simp only [Sem.run_bind,kd,Result.andThen_ok,Sem.run_pure]
               · simp only [Rel]
                 exact ⟨_,db,Nat.le_refl _,by simp⟩
               · simpa using (g3 w).2 ar hle db
   | _=>rw [bC] at he;cases he
set_option maxHeartbeats 2000000 in
theorem RL {E:Env} {h aa:ae} {call:c4} {o:Oper} {an:Nat} {r:bp} {a:Act} {v:V} (bm:e_ o=true) (he:(eb P o).run call r h=.val v aa) (k:RegRel0 E an r a):
 ∃m:Sem Value,execOp a.eval o=(do pure (.value (←m)))∧F9 P E m v h aa:=by
 obtain ⟨dst,op,type,pos,after,guard⟩:=o
 cases op<;>simp only [e_] at bm<;>try (cases bm;done)
 all_goals simp only [eb] at he
 case alloc t=>
  refine ⟨Instr.alloc t true (.tuple #[]),rfl,?_⟩
  cases aB:aX P t with
  | none=>rw [aB] at he;simp [cG.none] at he
  | some aL=>
    rw [aB] at he
    simp only at he
    cases bn:aL.zero with
    | none=>rw [bn] at he;simp [cG.none] at he
    | some z=>
      rw [bn] at he
      simp only at he
      cases a7:e4 h z.cells with
      | none=>rw [a7] at he;cases he
      | some U=>
        rw [a7] at he
        simp only [fW,aT.val.injEq] at he;obtain ⟨rfl,rfl⟩:=he
        obtain ⟨x,ao,nk,_⟩:=qh (P:=P) (E:=E) aB bn ⟨#[],fun _ _=>0,0,default,#[]⟩
        obtain ⟨cc,g1,g2,g3⟩:=Ev (P:=P) nk a7 t
        refine ⟨cc,g1,g2,fun w=>⟨.pointer (some ⟨w.heap.size,0,none⟩),.cells x.cells t,?_,fun ar hle db=>⟨?_,?_⟩⟩⟩
        · have:=(g3 w).1
          simp only [Array.toArray_toList] at this
          simp only [Instr.alloc,Sem.run_bind,ao,Result.andThen_ok,newVar,this,Sem.run_pure]
        · simp only [Rel];exact ⟨_,db,by simp⟩
        · simpa using (g3 w).2 ar hle db
 case box t x=>
  refine ⟨Instr.box t (a.eval x),rfl,?_⟩
  obtain ⟨aD,he⟩:=ix he
  cases a7:e4 h ((bA x).run r).cells with
  | none=>rw [a7] at he;cases he
  | some U=>
    rw [a7] at he
    simp only [fW,aT.val.injEq] at he;obtain ⟨rfl,rfl⟩:=he
    have aj:=(c7 k x).cells (fun e=>by rw [e] at aD;cases aD)
    obtain ⟨cc,g1,g2,g3⟩:=Ev (P:=P) aj a7 t
    refine ⟨cc,g1,g2,fun w=>⟨.pointer (some ⟨w.heap.size,0,none⟩),.cells (a.eval x).cells t,?_,fun ar hle db=>⟨?_,?_⟩⟩⟩
    · have:=(g3 w).1
      simp only [Array.toArray_toList] at this
      simp only [Instr.box,Sem.run_bind,newVar,this,Result.andThen_ok,Sem.run_pure]
    · simp only [Rel];exact ⟨_,db,by simp⟩
    · simpa using (g3 w).2 ar hle db
 case buildSlice t n a'=>
  refine ⟨Instr.buildSlice t n (a'.map fun (i,x)=>(i,a.eval x)),rfl,?_⟩
  rw [ET]
  exact Oy (zt k a'.toList) he
 case makeMap t x=>
  cases x with
  | some _=>cases bm
  | none=>
    refine ⟨Instr.makeMap t none,rfl,?_⟩
    simp only [nx,tB] at he
    cases aB:aX P t with
    | none=>rw [aB] at he;cases he
    | some aL=>
      rw [aB] at he
      simp only at he
      cases af:Nat.beq (dW aL.a_) 3 with
      | false=>rw [af] at he;cases he
      | true=>
        rw [af] at he
        simp only [cond_true,rJ,tH] at he
        simp only [aT.val.injEq] at he
        obtain ⟨rfl,rfl⟩:=he
        refine ⟨_,rfl,trivial,fun w=>⟨.map (some w.heap.size),.map #[] 0,?_,fun ar hle db=>⟨?_,fun B cS=>?_⟩⟩⟩
        · simp only [Instr.makeMap,Sem.run_bind,run_newObj,Result.andThen_ok,Sem.run_pure]
        · simp only [Rel];exact ⟨_,db,rfl⟩
        · exact ⟨_,#[],db,cS,by simp,rfl⟩
def Fr.hold (F:Fr) (b:aN) (k:bS):Fr:=⟨F.w,fun bz=>if bz=b then some k else F.ep bz⟩
def Fr.free (F:Fr) (b:aN):Fr:=⟨F.w,fun bz=>if bz=b then none else F.ep bz⟩
theorem aW.hold {F:Fr} {E:Env} {h:ae} {w:World} (s:aW F E h w) (k:bS):aW (F.hold (aG h.next) k) E (h.new k) w:=by
 have cU:=s.fresh h.next (Nat.le_refl _)
 refine ⟨fun b af=>?_,fun b bl az=>?_,fun b bz p p' U ad aF aM gw=>?_,fun i aC=>s.fresh i (Nat.le_of_succ_le aC),s.frame,s.laid,fun b p n cs st U aF=>s.base b p n cs st (by
  have c8:aG h.next≠b:=fun e=>by rw [←e,cU] at aF;cases aF
  rwa [ae.gv,if_neg c8] at U) aF⟩
 · simp only [Fr.hold] at af
   by_cases aE:b=aG h.next
   · rw [if_pos aE] at af;cases af
   · rw [if_neg aE] at af
     rw [ae.gv,if_neg (fun e=>aE e.symm)]
     exact s.bd b af
 · simp only [Fr.hold] at az
   by_cases aE:b=aG h.next
   · rw [if_pos aE] at az
     cases az
     exact ⟨by rw [ae.gv,if_pos aE.symm],by rw [aE];exact cU,h.next,Nat.lt_succ_self _,aE⟩
   · rw [if_neg aE] at az
     obtain ⟨ai,ay,i,aK,bE⟩:=s.lH b bl az
     exact ⟨by rw [ae.gv,if_neg (fun e=>aE e.symm)];exact ai,ay,i,Nat.lt_succ_of_lt aK,bE⟩
 · have c8:aG h.next≠b:=fun e=>by rw [←e,cU] at aF;cases aF
   have kX:aG h.next≠bz:=fun e=>by rw [←e,cU] at aM;cases aM
   rw [ae.gv,if_neg c8] at U
   rw [ae.gv,if_neg kX] at ad
   exact s.inj b bz p p' U ad aF aM gw
theorem aW.link {F:Fr} {E:Env} {h:ae} {w:World} (s:aW F E h w) {b:aN} {k:bS} (ag:F.ep b=some k) {o:Obj}
 (hS:e7 F.w.heap.size (E.put b ⟨w.heap.size,0,0⟩) {w with heap:=w.heap.push o} b k):
 E.le (E.put b ⟨w.heap.size,0,0⟩)∧aW (F.free b) (E.put b ⟨w.heap.size,0,0⟩) h {w with heap:=w.heap.push o}:=by
 obtain ⟨az,cU,i0,q_,q0⟩:=s.lH b k ag
 have hle:E.le (E.put b ⟨w.heap.size,0,0⟩):=Env.jj cU
 have db:E.put b ⟨w.heap.size,0,0⟩ b=some ⟨w.heap.size,0,0⟩:=by unfold Env.put;rw [if_pos rfl]
 have hold:∀bz,bz≠b→E.put b ⟨w.heap.size,0,0⟩ bz=E bz:=by intro bz af;unfold Env.put;rw [if_neg af]
 have iC:∀bz q,E bz=some q→(h.get bz)≠.dead→q.bd<w.heap.size:=by
  intro bz q aE aV
  have af:=s.at aE
  cases aD:h.get bz with
  | dead=>exact absurd aD aV
  | view n cs=>rw [aD] at af;obtain ⟨_,dK,c,el,bF,e,_,a8,_⟩:=af;rw [e] at aE;cases aE;exact (Array.getElem?_eq_some_iff.1 a8).1
  | cells n cs cj st=>rw [aD] at af;obtain ⟨_,dK,c,el,bF,e,_,a8,_⟩:=af;rw [e] at aE;cases aE;exact (Array.getElem?_eq_some_iff.1 a8).1
  | iter st pos=>rw [aD] at af;obtain ⟨dK,e,_,_,a8⟩:=af;rw [e] at aE;cases aE;exact (Array.getElem?_eq_some_iff.1 a8).1
  | mp es clock=>rw [aD] at af;obtain ⟨dK,a,e,_,a8,_⟩:=af;rw [e] at aE;cases aE;exact (Array.getElem?_eq_some_iff.1 a8).1
  | dq l=>rw [aD] at af;obtain ⟨dK,a,e,_,a8,_⟩:=af;rw [e] at aE;cases aE;exact (Array.getElem?_eq_some_iff.1 a8).1
  | eX=>rw [aD] at af;obtain ⟨dK,e,_,a8⟩:=af;rw [e] at aE;cases aE;exact (Array.getElem?_eq_some_iff.1 a8).1
  | gb es=>rw [aD] at af;obtain ⟨dK,a,c,l,e,_,a8,_⟩:=af;rw [e] at aE;cases aE;exact (Array.getElem?_eq_some_iff.1 a8).1
  | gW src since seen last=>rw [aD] at af;obtain ⟨dK,m,a,e,_,_,a8,_⟩:=af;rw [e] at aE;cases aE;exact (Array.getElem?_eq_some_iff.1 a8).1
 refine ⟨hle,fun bz fD=>?_,fun bz bl fZ=>?_,fun bJ cg bY b9 U ad aF aM gw=>?_,fun i aC=>?_,⟨s.frame.os,s.frame.tape,s.frame.output,?_,fun j bG=>?_⟩,s.laid,fun bJ bY n cs st U aF=>by
  by_cases bB:bJ=b
  · subst bB;rw [db] at aF;cases aF;rfl
  · rw [hold bJ bB] at aF;exact s.base _ _ _ _ _ U aF⟩
 · by_cases aE:bz=b
   · subst aE;rw [az];exact hS
   · simp only [Fr.free,if_neg aE] at fD
     have a6:=(s.bd bz fD).mono hle
     by_cases aV:h.get bz=.dead
     · rw [aV];trivial
     · refine e7.fH a6 fun q mq=>?_
       rw [hold bz aE] at mq
       have:=iC bz q mq aV
       simp only [Array.getElem?_push]
       rw [if_neg (by omega)]
 · simp only [Fr.free] at fZ
   by_cases aE:bz=b
   · rw [if_pos aE] at fZ;cases fZ
   · rw [if_neg aE] at fZ
     obtain ⟨ai,ay,aK⟩:=s.lH bz bl fZ
     exact ⟨ai,by rw [hold bz aE];exact ay,aK⟩
 · by_cases bB:bJ=b<;>by_cases bX:cg=b
   · exact bB.trans bX.symm
   · subst bB
     rw [db] at aF;cases aF
     rw [hold cg bX] at aM
     have:=iC cg b9 aM (fun e=>by rw [e] at ad;cases ad)
     simp only at gw
     omega
   · subst bX
     rw [db] at aM;cases aM
     rw [hold bJ bB] at aF
     have:=iC bJ bY aF (fun e=>by rw [e] at U;cases U)
     simp only at gw
     omega
   · rw [hold bJ bB] at aF
     rw [hold cg bX] at aM
     exact s.inj bJ cg bY b9 U ad aF aM gw
 · rw [hold _ (fun e=>?_)]
   · exact s.fresh i aC
   · rw [q0] at e
     have:=gB e
     omega
 · have:=s.frame.size
   simp only [Array.size_push,Fr.free]
   omega
 · have U:=s.frame.size
   simp only [Fr.free,Array.getElem?_push]
   rw [if_neg (by simp only [Fr.free] at bG;omega)]
   exact s.frame.block j bG
end
end Go.Proofs.YtkehcalakofigaaGreatDoor.aY
namespace Go.Proofs.YtkehcalakofigaaGreatDoor.aY
variable [Lay]
open Go Go.RowKit
section
variable {P:Program}
def dt (es:List dS) (cv:bp) (i:Nat):bp:=
 match es[i]? with
 | some e=>e.r
 | none=>cv
theorem s5 (e:dS) (es:List dS) (ax:ae) (i:Nat):bT (e::es) ax (i+1)=bT es ax i:=by simp [bT]
theorem tZ (e:dS) (es:List dS) (cv:bp) (i:Nat):dt (e::es) cv (i+1)=dt es cv i:=by simp [dt]
theorem qd {an:Nat} {all:Array Oper} {call:c4}:∀{l:List Oper} {r cv:bp} {h ax:ae} {es:List dS},(et P an all l).run call r h=.ok es cv ax→
 es.length=l.length∧bT es ax 0=h∧dt es cv 0=r∧∀j o,l[j]? =some o→∃e,es[j]? =some e∧(b8 P an all o).run call e.r e.h=.val e.v (bT es ax (j+1))∧dt es cv (j+1)=(ey o.dst).run e.r e.v
 | [],r,cv,h,ax,es,he=>by
   simp only [et,mN.ok.injEq] at he
   obtain ⟨rfl,rfl,rfl⟩:=he
   exact ⟨rfl,rfl,rfl,fun j o aP=>by simp at aP⟩
 | o::os,r,cv,h,ax,es,he=>by
   simp only [et,wP] at he
   cases U:(b8 P an all o).run call r h with
   | fail=>rw [U] at he;cases he
   | b' _ _=>rw [U] at he;simp only at he;cases hm:jl o.op<;>rw [hm] at he<;>cases he
   | val v a8=>
     rw [U] at he
     simp only at he
     cases ad:(et P an all os).run call ((ey o.dst).run r v) a8 with
     | fail=>rw [ad] at he;cases he
     | b' _ _ _ _ _=>rw [ad] at he;cases he
     | ok fO bs aI=>
       rw [ad] at he
       simp only [mN.ok.injEq] at he
       obtain ⟨rfl,rfl,rfl⟩:=he
       obtain ⟨ai,ay,aK,bE⟩:=qd ad
       refine ⟨by simp [ai],by simp [bT],by simp [dt],fun j bR aP=>?_⟩
       cases j with
       | zero=>
         simp only [List.getElem?_cons_zero,Option.some.injEq] at aP
         subst aP
         exact ⟨⟨r,h,v⟩,rfl,by rw [s5,ay];exact U,by rw [tZ,aK]⟩
       | succ j=>
         obtain ⟨e,bY,b9,dZ⟩:=bE j bR (by simpa using aP)
         exact ⟨e,by simpa using bY,by rw [s5];exact b9,by rw [tZ];exact dZ⟩
theorem Mi {an:Nat} {all:Array Oper} {call:c4}:∀{l:List Oper} {r cv:bp} {h ax aa:ae} {es:List dS} {v:V},(et P an all l).run call r h=.b' es cv ax v aa→
 bT es ax 0=h∧dt es cv 0=r∧(∀j o,j<es.length→l[j]? =some o→∃e,es[j]? =some e∧(b8 P an all o).run call e.r e.h=.val e.v (bT es ax (j+1))∧dt es cv (j+1)=(ey o.dst).run e.r e.v)∧
  ∃o,l[es.length]? =some o∧jl o.op=true∧(b8 P an all o).run call cv ax=.b' v aa
 | [],r,cv,h,ax,aa,es,v,he=>by simp [et] at he
 | o::os,r,cv,h,ax,aa,es,v,he=>by
   simp only [et,wP] at he
   cases U:(b8 P an all o).run call r h with
   | fail=>rw [U] at he;cases he
   | b' x ao=>
     rw [U] at he
     simp only at he
     cases hm:jl o.op with
     | false=>rw [hm] at he;cases he
     | true=>
       rw [hm] at he
       simp only [cond_true,mN.b'.injEq] at he
       obtain ⟨rfl,rfl,rfl,rfl,rfl⟩:=he
       exact ⟨rfl,rfl,fun j bR bG=>by simp at bG,o,rfl,hm,U⟩
   | val x a8=>
     rw [U] at he
     simp only at he
     cases ad:(et P an all os).run call ((ey o.dst).run r x) a8 with
     | fail=>rw [ad] at he;cases he
     | ok _ _ _=>rw [ad] at he;cases he
     | b' fO bs aI v1 bq=>
       rw [ad] at he
       simp only [mN.b'.injEq] at he
       obtain ⟨rfl,rfl,rfl,rfl,rfl⟩:=he
       obtain ⟨ay,aK,bE,cQ,dr,eS,iO⟩:=Mi ad
       refine ⟨by simp [bT],by simp [dt],fun j bR bG aP=>?_,cQ,by simpa using dr,eS,iO⟩
       cases j with
       | zero=>
         simp only [List.getElem?_cons_zero,Option.some.injEq] at aP
         subst aP
         exact ⟨⟨r,h,x⟩,rfl,by rw [s5,ay];exact U,by rw [tZ,aK]⟩
       | succ j=>
         obtain ⟨e,bY,b9,dZ⟩:=bE j bR (by simpa using bG) (by simpa using aP)
         exact ⟨e,by simpa using bY,by rw [s5];exact b9,by rw [tZ];exact dZ⟩
theorem Ij {an:Nat} {d:Option Nat} (aV:ed an d=true) {r:bp} {v:V} {t:Nat} (aB:t≤top):T.get .bad (aG t) ((ey d).run r v)=if d=some t then v else T.get .bad (aG t) r:=by
 cases d with
 | none=>simp [ey]
 | some d=>
   simp only [ed,Bool.and_eq_true,Nat.blt_eq,Nat.ble_eq] at aV
   simp only [ey,T.gj,Option.some.injEq]
   by_cases h:d=t
   · subst h;simp
   · rw [if_neg (fun e=>h (gB e)),if_neg h]
theorem h2 {an:Nat} {all:Array Oper} {o:Oper} {call:c4} {r:bp} {h aa:ae} {v:V} (he:(b8 P an all o).run call r h=.val v aa):ed an o.dst=true∧il (bO all o)=true:=by
 unfold b8 at he
 cases aq:(ed an o.dst&&il (bO all o)) with
 | false=>rw [aq] at he;simp [cG.none] at he
 | true=>simpa using aq
theorem Mv {r:bp} {rs:List Nat} (aR:il rs=true) {t:Nat} (aB:t≤top):T.get .bad (aG t) (cX r rs)=if t ∈ rs then T.get .bad (aG t) r else .bad:=by
 induction rs with
 | nil=>simp [cX]
 | cons u rs bh=>
   simp only [il,List.all_cons,Bool.and_eq_true,Nat.ble_eq] at aR
   simp only [cX,T.gj,List.mem_cons]
   by_cases h:u=t
   · subst h;simp
   · rw [if_neg (fun e=>h (gB e)),bh aR.2]
     have aa:¬t=u:=fun e=>h e.symm
     simp [aa]
theorem Hu {an:Nat} {all:Array Oper} {o:Oper} {call:c4} {r:bp} {h aa:ae} {v:V} (he:(b8 P an all o).run call r h=.b' v aa):ed an o.dst=true∧il (bO all o)=true:=by
 unfold b8 at he
 cases aq:(ed an o.dst&&il (bO all o)) with
 | false=>rw [aq] at he;simp [cG.none] at he
 | true=>simpa using aq
def AQ (au:Fr) (E:Env) (o:Oper) (a:Act) (K:Act→World→Prop) (Q:Exit→Act→World→Prop):aT→Prop
 | .val v aa=>∀ar x ak,E.le ar→Rel ar v x→aW au ar aa ak→K (a.put o.dst x) ak
 | .b' v aa=>jl o.op=true∧∀ar x ak,E.le ar→Rel ar v x→aW au ar aa ak→Q (.panic (mD x)) a ak
 | .fail=>False
theorem Hv {rd:Option Nat} {au:Fr} {E:Env} {h:ae} {w:World} {call:c4} (bt:dJ P) (cp:fe P call) (cZ:fp P call) {all:Array Oper} {i:Nat} {o:Oper} (aC:all[i]? =some o) {an:Nat} {r:bp} {a:Act}
 (fE:ed an o.dst=true∧il (bO all o)=true) (jc:a.tmps.size=an) (h_:∀t ∈ bO all o,Rel E (T.get .bad (aG t) r) (a.tmps.getD t undef)) (s:aW au E h w)
 {K:Act→World→Prop} {Q:Exit→Act→World→Prop} (ag:AQ au E o a K Q ((b8 P an all o).run call r h)):wpOpIn (bQ rd) 0 P all Q i K a w:=by
 obtain ⟨aV,aR⟩:=fE
 have k:RegRel0 E an (cX r (bO all o)) a:=⟨jc,fun t aB=>by
  rw [Mv aR aB]
  by_cases hm:t ∈ bO all o
  · rw [if_pos hm];exact h_ t hm
  · rw [if_neg hm];simp [Rel]⟩
 unfold b8 at ag
 rw [show (ed an o.dst&&il (bO all o))=true from by rw [aV,aR];rfl] at ag
 simp only [cond_true] at ag
 have wanted:AQ au E o a K Q ((eb P o).run call (cX r (bO all o)) h)→Region.wanted o (yielded all a.tmps)=true→wpOpIn (bQ rd) 0 P all Q i K a w:=by
  intro U hw
  simp only [wpOpIn,aC,hw,if_true]
  cases aH:(eb P o).run call (cX r (bO all o)) h with
  | fail=>rw [aH] at U;exact U.elim
  | val v aa=>rw [aH] at U;exact Hk bt cp cZ aH k s U
  | b' v aa=>rw [aH] at U;exact Hh bt cp U.1 aH k s U.2
 have MD:AQ au E o a K Q (.val (.tuple []) h)→Region.wanted o (yielded all a.tmps)=false→wpOpIn (bQ rd) 0 P all Q i K a w:=by
  intro U hw
  simp only [wpOpIn,aC,hw,Bool.false_eq_true,if_false]
  exact ⟨fun _ _=>trivial,U E undef w (Env.le.refl E) (by simp only [Rel];exact ⟨#[],rfl,rfl⟩) s⟩
 cases aD:o.guard with
 | none=>
   rw [aD] at ag
   exact wanted ag (by simp [Region.wanted,aD])
 | some mu=>
   obtain ⟨j,want⟩:=mu
   rw [aD] at ag
   simp only at ag
   cases bG:all[j]? with
   | none=>rw [bG] at ag;exact ag.elim
   | some g=>
     rw [bG] at ag
     simp only at ag
     cases h6:g.dst with
     | none=>rw [h6] at ag;exact ag.elim
     | some d=>
       rw [h6] at ag
       simp only at ag
       cases aq:(Nat.blt d an&&Nat.ble d top) with
       | false=>rw [aq] at ag;exact ag.elim
       | true=>
         rw [aq] at ag
         simp only [cond_true,gR,lk] at ag
         simp only [Bool.and_eq_true,Nat.blt_eq,Nat.ble_eq] at aq
         obtain ⟨g1,g2⟩:=Cz k bG h6 aq.1 aq.2
         cases bw:T.get .bad (aG d) (cX r (bO all o))<;>rw [bw] at ag<;>simp only at ag<;>try (exact ag.elim)
         · rename_i b
           have a1:=g1 b bw
           cases af:(bif want then b else !b) with
           | true=>
             rw [af] at ag
             simp only [cond_true] at ag
             refine wanted ag ?_
             simp only [Region.wanted,aD,a1]
             cases want<;>cases b<;>simp_all
           | false=>
             rw [af] at ag
             simp only [cond_false] at ag
             refine MD ag ?_
             simp only [Region.wanted,aD,a1]
             cases want<;>cases b<;>simp_all
         · rename_i ab
           have a1:=g2 ab bw
           refine MD ag ?_
           simp only [Region.wanted,aD,a1]
           rfl
theorem mU {rd:Option Nat} {au:Fr} {E:Env} {h aa:ae} {w:World} {call:c4} (bt:dJ P) (cp:fe P call) (cZ:fp P call) {all:Array Oper} {i:Nat} {o:Oper} (aC:all[i]? =some o) {an:Nat} {r:bp} {a:Act} {v:V}
 (he:(b8 P an all o).run call r h=.val v aa) (jc:a.tmps.size=an) (h_:∀t ∈ bO all o,Rel E (T.get .bad (aG t) r) (a.tmps.getD t undef)) (s:aW au E h w)
 {K:Act→World→Prop} {Q:Exit→Act→World→Prop} (c9:∀ar x ak,E.le ar→Rel ar v x→aW au ar aa ak→K (a.put o.dst x) ak):wpOpIn (bQ rd) 0 P all Q i K a w:=
 Hv bt cp cZ aC (h2 he) jc h_ s (by rw [he];exact c9)
theorem R6 {rd:Option Nat} {au:Fr} {E:Env} {h aa:ae} {w:World} {call:c4} (bt:dJ P) (cp:fe P call) (cZ:fp P call) {all:Array Oper} {i:Nat} {o:Oper} (aC:all[i]? =some o) {an:Nat} {r:bp} {a:Act} {v:V}
 (he:(b8 P an all o).run call r h=.b' v aa) (hm:jl o.op=true) (jc:a.tmps.size=an) (h_:∀t ∈ bO all o,Rel E (T.get .bad (aG t) r) (a.tmps.getD t undef)) (s:aW au E h w)
 {K:Act→World→Prop} {Q:Exit→Act→World→Prop} (cP:∀ar x ak,E.le ar→Rel ar v x→aW au ar aa ak→Q (.panic (mD x)) a ak):wpOpIn (bQ rd) 0 P all Q i K a w:=
 Hv bt cp cZ aC (Hu he) jc h_ s (by rw [he];exact ⟨hm,cP⟩)
theorem qL {an:Nat} {all:Array Oper} {o:Oper} {call:c4} {r:bp} {h aa:ae} {v:V} (aE:dU P o.op=false) (he:(b8 P an all o).run call r h=.val v aa):
 aa=h∧(looks o.op=false→∀H,(b8 P an all o).run call r H=.val v H):=by
 obtain ⟨aV,aR⟩:=h2 he
 have cE:(ed an o.dst&&il (bO all o))=true:=by rw [aV,aR];rfl
 have key:b8 P an all o=(match o.guard with
  | none=>⟨gR none (eb P o) (bO all o)⟩
  | some (j,want)=>match all[j]? with
    | some g=>match g.dst with
      | some d=>bif Nat.blt d an&&Nat.ble d top then ⟨gR (some (lk (aG d),want)) (eb P o) (bO all o)⟩ else cG.none
      | none=>cG.none
    | none=>cG.none):=by
  unfold b8;rw [cE];rfl
 rw [key] at he ⊢
 cases aD:o.guard with
 | none=>
   rw [aD] at he
   exact ⟨Hj aE he,fun aj H=>Hi aE aj he H⟩
 | some mu=>
   obtain ⟨j,want⟩:=mu
   rw [aD] at he
   simp only at he ⊢
   cases bG:all[j]? with
   | none=>rw [bG] at he;simp [cG.none] at he
   | some g=>
     rw [bG] at he
     simp only at he ⊢
     cases h6:g.dst with
     | none=>rw [h6] at he;simp [cG.none] at he
     | some d=>
       rw [h6] at he
       simp only at he ⊢
       cases aq:(Nat.blt d an&&Nat.ble d top) with
       | false=>rw [aq] at he;simp [cG.none] at he
       | true=>
         rw [aq] at he
         simp only [cond_true,gR] at he ⊢
         cases bw:(lk (aG d)).run (cX r (bO all o))<;>rw [bw] at he<;>simp only at he ⊢<;>try (cases he;done)
         · rename_i b
           cases af:(bif want then b else !b)<;>rw [af] at he<;>simp only [cond_true,cond_false] at he ⊢
           · simp only [aT.val.injEq] at he ⊢
             exact ⟨he.2.symm,fun _ H=>⟨he.1,trivial⟩⟩
           · exact ⟨Hj aE he,fun aj H=>Hi aE aj he H⟩
         · simp only [aT.val.injEq] at he ⊢
           exact ⟨he.2.symm,fun _ H=>⟨he.1,trivial⟩⟩
theorem Gt {op:cG} {call:c4} {es:List dS} {ax:ae} {r:bp} {v:V}:∀{eL:List Nat},xv op call es ax r v eL=true→∀s ∈ eL,∃aa,op.run call r (bT es ax s)=.val v aa
 | [],_,s,h=>by simp at h
 | fK::eL,he,s,hm=>by
   simp only [xv,Bool.and_eq_true] at he
   simp only [List.mem_cons] at hm
   rcases hm with rfl | hm
   · have U:=he.1
     cases aH:op.run call r (bT es ax s) with
     | fail=>rw [aH] at U;cases U
     | b' _ _=>rw [aH] at U;cases U
     | val hr aa=>
       rw [aH] at U
       rw [Cm U]
       exact ⟨aa,rfl⟩
   · exact Gt he.2 s hm
theorem A4 {an:Nat} {all:Array Oper} {c' aA dE:List Nat} {call:c4} {es:List dS} {ax:ae}:∀{l:List Oper} {i:Nat},(nT P an all c' aA dE i l).run call es ax=true→
 ∀j o,l[j]? =some o→looks o.op=true→dU P o.op=false→∀e,es[posOf aA (i+j)]? =some e→∀s ∈ dE,oI P c' all.toList aA (i+j) ((c'[i+j]?).getD 0) s=true→∃aa,(b8 P an all o).run call e.r (bT es ax s)=.val e.v aa
 | [],_,_,j,o,aP,_,_=>by simp at aP
 | bR::os,i,he,j,o,aP,aj,aE=>by
   simp only [nT] at he
   cases j with
   | zero=>
     simp only [List.getElem?_cons_zero,Option.some.injEq] at aP
     subst aP
     rw [aj,aE] at he
     simp only [Bool.not_false,Bool.and_true,cond_true,Bool.and_eq_true,Gu] at he
     have U:=he.1
     intro e lo s aR hm
     · rw [Nat.add_zero] at lo
       rw [lo] at U
       exact Gt U s (List.mem_filter.2 ⟨aR,by simpa using hm⟩)
   | succ j=>
     have rest:(nT P an all c' aA dE (i+1) os).run call es ax=true:=by
      cases aq:(looks bR.op&&!dU P bR.op) with
      | false=>rw [aq] at he;exact he
      | true=>rw [aq] at he;simp only [cond_true,Bool.and_eq_true] at he;exact he.2
     have:=A4 rest j o (by simpa using aP) aj aE
     rw [show i + (j+1)=i+1+j from by omega]
     exact this
theorem tA {aA:List Nat}:∀{l:List Oper} {i j:Nat} {o:Oper},l[j]? =some o→dj P o=true→posOf aA (i+j) ∈ fV P aA i l
 | [],_,j,o,h,_=>by simp at h
 | bR::os,i,j,o,h,he=>by
   simp only [fV]
   cases j with
   | zero=>
     simp only [List.getElem?_cons_zero,Option.some.injEq] at h
     subst h
     rw [he]
     simp
   | succ j=>
     have:=tA (aA:=aA) (i:=i+1) (by simpa using h) he
     rw [show i + (j+1)=i+1+j from by omega]
     cases dj P bR with
     | true=>simp [this]
     | false=>exact this
theorem y5 {aA:List Nat}:∀{l:List Oper} {i:Nat},i+l.length ∈ fV P aA i l
 | [],_=>by simp [fV]
 | o::os,i=>by
   have:=y5 (aA:=aA) (l:=os) (i:=i+1)
   simp only [fV,List.length_cons]
   rw [show i + (os.length+1)=i+1+os.length from by omega]
   cases dj P o with
   | true=>simp [this]
   | false=>exact this
theorem pT {aA:List Nat}:∀{l:List Oper} {i s:Nat},s ∈ fV P aA i l→s=i+l.length∨∃j o,l[j]? =some o∧dj P o=true∧s=posOf aA (i+j)
 | [],i,s,h=>by simp only [fV,List.mem_singleton] at h;exact .inl (by simpa using h)
 | o::os,i,s,h=>by
   simp only [fV] at h
   have rest:s ∈ fV P aA (i+1) os→s=i + (o::os).length∨∃j bR,(o::os)[j]? =some bR∧dj P bR=true∧s=posOf aA (i+j):=by
    intro h
    rcases pT h with h | ⟨j,bR,U,ad,aI⟩
    · exact .inl (by simp only [List.length_cons];omega)
    · exact .inr ⟨j+1,bR,by simpa using U,ad,by rw [aI];congr 1;omega⟩
   cases aq:dj P o with
   | true=>
     rw [aq] at h
     simp only [cond_true,List.mem_cons] at h
     rcases h with h | h
     · exact .inr ⟨0,o,rfl,aq,h⟩
     · exact rest h
   | false=>rw [aq] at h;exact rest h
theorem RM {o:Oper} {call:c4} {r:bp} {h aa:ae} {v:V} (bm:e_ o=true) (he:(eb P o).run call r h=.val v aa):∃k,aa=h.new k∧True:=by
 have cells:∀{ab:List V} {U:ae},e4 h ab=some U→∃k,U=h.new k∧True:=by
  intro ab U he
  unfold e4 at he
  obtain ⟨aq,he⟩:=dG he
  cases he
  exact ⟨_,rfl,trivial⟩
 obtain ⟨dst,op,type,pos,after,guard⟩:=o
 cases op<;>simp only [e_] at bm<;>try (cases bm;done)
 all_goals simp only [eb] at he
 case alloc t=>
  cases aB:aX P t with
  | none=>rw [aB] at he;simp [cG.none] at he
  | some aL=>
    rw [aB] at he
    simp only at he
    cases bn:aL.zero with
    | none=>rw [bn] at he;simp [cG.none] at he
    | some z=>
      rw [bn] at he
      simp only at he
      cases a7:e4 h z.cells with
      | none=>rw [a7] at he;cases he
      | some U=>
        rw [a7] at he
        simp only [fW,aT.val.injEq] at he;obtain ⟨_,rfl⟩:=he
        exact cells a7
 case box t x=>
  obtain ⟨aD,he⟩:=ix he
  cases a7:e4 h ((bA x).run r).cells with
  | none=>rw [a7] at he;cases he
  | some U=>
    rw [a7] at he
    simp only [fW,aT.val.injEq] at he;obtain ⟨_,rfl⟩:=he
    exact cells a7
 case buildSlice t n a'=>
  unfold qG at he
  cases aB:aX P t with
  | none=>rw [aB] at he;cases he
  | some aL=>
    rw [aB] at he
    simp only at he
    cases bC:aL.a_<;>rw [bC] at he<;>simp only at he<;>try (cases he;done)
    rename_i e
    cases b5:aX P e with
    | none=>rw [b5] at he;cases he
    | some bb=>
      rw [b5] at he
      simp only at he
      cases bn:bb.zero with
      | none=>rw [bn] at he;cases he
      | some z=>
        rw [bn] at he
        simp only at he
        cases aq:(Nat.ble (n * bb.size) 1000000&&Nat.beq z.cells.length bb.size) with
        | false=>rw [aq] at he;cases he
        | true=>
          rw [aq] at he
          simp only [cond_true] at he
          cases ax:j9 (fun i=>some (i * bb.size,bb.size)) (gM z.cells n) ((p2 a'.toList).run r) with
          | none=>rw [ax] at he;cases he
          | some cs=>
            rw [ax] at he
            simp only at he
            cases a7:e4 h cs with
            | none=>rw [a7] at he;cases he
            | some U=>
              rw [a7] at he
              simp only [aT.val.injEq] at he
              obtain ⟨_,rfl⟩:=he
              exact cells a7
 case makeMap t x=>
  cases x with
  | some _=>cases bm
  | none=>
    simp only [nx,tB] at he
    cases aB:aX P t with
    | none=>rw [aB] at he;cases he
    | some aL=>
      rw [aB] at he
      simp only at he
      cases af:Nat.beq (dW aL.a_) 3 with
      | false=>rw [af] at he;cases he
      | true=>
        rw [af] at he
        simp only [cond_true,rJ,tH] at he
        simp only [aT.val.injEq] at he
        exact ⟨_,he.2.symm,trivial⟩
theorem V0 {o:Oper} (bm:e_ o=true):dU P o.op=true:=by
 obtain ⟨dst,op,type,pos,after,guard⟩:=o
 cases op<;>simp only [e_] at bm<;>first | (cases bm;done) | rfl
theorem Hx {an:Nat} {all:Array Oper} {o:Oper} {call:c4} {r:bp} {h aa:ae} {v:V} (he:(b8 P an all o).run call r h=.val v aa):
 ((eb P o).run call (cX r (bO all o)) h=.val v aa∧∀E a,RegRel0 E an (cX r (bO all o)) a→Region.wanted o (yielded all a.tmps)=true)∨
 (aa=h∧∀H,(b8 P an all o).run call r H=.val v H):=by
 obtain ⟨aV,aR⟩:=h2 he
 have cE:(ed an o.dst&&il (bO all o))=true:=by rw [aV,aR];rfl
 have key:b8 P an all o=(match o.guard with
  | none=>⟨gR none (eb P o) (bO all o)⟩
  | some (j,want)=>match all[j]? with
    | some g=>match g.dst with
      | some d=>bif Nat.blt d an&&Nat.ble d top then ⟨gR (some (lk (aG d),want)) (eb P o) (bO all o)⟩ else cG.none
      | none=>cG.none
    | none=>cG.none):=by
  unfold b8;rw [cE];rfl
 rw [key] at he ⊢
 cases aD:o.guard with
 | none=>
   rw [aD] at he
   exact .inl ⟨he,fun E a _=>by simp [Region.wanted,aD]⟩
 | some mu=>
   obtain ⟨j,want⟩:=mu
   rw [aD] at he
   simp only at he ⊢
   cases bG:all[j]? with
   | none=>rw [bG] at he;simp [cG.none] at he
   | some g=>
     rw [bG] at he
     simp only at he ⊢
     cases h6:g.dst with
     | none=>rw [h6] at he;simp [cG.none] at he
     | some d=>
       rw [h6] at he
       simp only at he ⊢
       cases aq:(Nat.blt d an&&Nat.ble d top) with
       | false=>rw [aq] at he;simp [cG.none] at he
       | true=>
         rw [aq] at he
         simp only [cond_true,gR] at he ⊢
         have l_:=aq
         simp only [Bool.and_eq_true,Nat.blt_eq,Nat.ble_eq] at l_
         cases bw:(lk (aG d)).run (cX r (bO all o))<;>rw [bw] at he<;>simp only at he ⊢<;>try (cases he;done)
         · rename_i b
           cases af:(bif want then b else !b)<;>rw [af] at he<;>simp only [cond_true,cond_false] at he ⊢
           · simp only [aT.val.injEq] at he ⊢
             exact .inr ⟨he.2.symm,fun H=>⟨he.1,trivial⟩⟩
           · refine .inl ⟨he,fun E a k=>?_⟩
             obtain ⟨g1,_⟩:=Cz k bG h6 l_.1 l_.2
             have a1:=g1 b bw
             simp only [Region.wanted,aD,a1]
             cases want<;>cases b<;>simp_all
         · simp only [aT.val.injEq] at he ⊢
           exact .inr ⟨he.2.symm,fun H=>⟨he.1,trivial⟩⟩
theorem Hw {an:Nat} {all:Array Oper} {o:Oper} {call:c4} {r:bp} {h aa:ae} {v:V} (bm:e_ o=true) (he:(b8 P an all o).run call r h=.val v aa):
 (∃k,aa=h.new k∧True)∨(aa=h∧∀H,(b8 P an all o).run call r H=.val v H):=by
 rcases Hx he with ⟨U,_⟩ | U
 · exact .inl (RM bm U)
 · exact .inr U
theorem R4 {rd:Option Nat} {F:Fr} {E:Env} {h aa H:ae} {w:World} {call:c4} {all:Array Oper} {i:Nat} {o:Oper} (aC:all[i]? =some o) (bm:e_ o=true) {an:Nat} {r:bp} {a:Act} {v:V}
 (he:(b8 P an all o).run call r h=.val v aa) (jc:a.tmps.size=an) (h_:∀t ∈ bO all o,Rel E (T.get .bad (aG t) r) (a.tmps.getD t undef)) (s:aW F E H w)
 (Dr:aa.next≠h.next) (ag:F.ep (aG h.next)=some (aa.get (aG h.next)))
 {K:Act→World→Prop} {Q:Exit→Act→World→Prop} (c9:∀ar x ak,E.le ar→Rel ar v x→aW (F.free (aG h.next)) ar H ak→K (a.put o.dst x) ak):wpOpIn (bQ rd) 0 P all Q i K a w:=by
 obtain ⟨aV,aR⟩:=h2 he
 have k:RegRel0 E an (cX r (bO all o)) a:=⟨jc,fun t aB=>by
  rw [Mv aR aB]
  by_cases hm:t ∈ bO all o
  · rw [if_pos hm];exact h_ t hm
  · rw [if_neg hm];simp [Rel]⟩
 obtain ⟨dx,hw⟩:(eb P o).run call (cX r (bO all o)) h=.val v aa∧Region.wanted o (yielded all a.tmps)=true:=by
  rcases Hx he with ⟨U,ad⟩ | ⟨U,_⟩
  · exact ⟨U,ad E a k⟩
  · exact absurd (by rw [U]) Dr
 obtain ⟨m,ao,cc,ai,ay,aK⟩:=RL bm dx k
 simp only [wpOpIn,aC,hw,if_true]
 obtain ⟨X,pY,bY,b9⟩:=aK w
 rw [ai,ae.gv,if_pos rfl] at ag
 have db:E.put (aG h.next) ⟨w.heap.size,0,0⟩ (aG h.next)=some ⟨w.heap.size,0,0⟩:=by unfold Env.put;rw [if_pos rfl]
 have hle:E.le (E.put (aG h.next) ⟨w.heap.size,0,0⟩):=Env.jj (s.lH _ _ ag).2.1
 obtain ⟨bs,cV⟩:=b9 _ hle db
 have b4:F.w.heap.size≤w.heap.size:=s.frame.size
 obtain ⟨_,mf⟩:=s.link ag (o:=pY) (cV _ b4)
 refine ⟨fun _ _=>trivial,?_⟩
 rw [mH (by intro c h;have:=bm;unfold e_ at this;rw [h] at this;cases this),ao,Sem.run_bind,bY]
 exact c9 _ X _ hle bs mf
end
end Go.Proofs.YtkehcalakofigaaGreatDoor.aY
