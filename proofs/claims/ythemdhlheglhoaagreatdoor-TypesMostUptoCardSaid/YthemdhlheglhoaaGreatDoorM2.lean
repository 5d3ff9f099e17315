/- The abstract machine and its walks (a verified interpreter of the model's code: plain definitions and lemmas, no condition). Printed by a program from longer texts: names made short. -/
import Derived.Test.YthemdhlheglhoaaGreatDoorM1
import Derived.LaidEqlPtr
import Derived.RangeFuncLeaves
import Derived.RecoverIn
import Derived.OrdersIn
set_option linter.unusedSectionVars false
set_option linter.unusedSimpArgs false
set_option linter.unusedVariables false
set_option maxHeartbeats 64000000
noncomputable section
namespace Go.Proofs.YthemdhlheglhoaaGreatDoor.aY
section
open Go Go.RowKit
variable [Lay]
section
variable {P:Program}
theorem Wr {α β:Type} (g:α->Sem β) (k:α->β) (w:World):∀(l:List α),(∀x ∈ l,(g x).run P w=.ok (k x) w)->(l.mapM g).run P w=.ok (l.map k) w
 | [],_=>by simp
 | x::l,h=>by rw [List.mapM_cons,Sem.run_bind,h x (by simp)];simp only [Result.andThen_ok,Sem.run_bind,Wr g k w l (fun y a1=>h y (by simp [a1])),Sem.run_pure,List.map]
theorem aan {E:Env} {t:TypeId} {bj:List (Nat × V)} {g_:List (Nat × Value)} {v:V} (af:rS E bj g_) (he:(DU P t).run bj=some v) (w:World):
 ∃Z,(Instr.build t g_.toArray).run P w=.ok Z w/\Rel E v Z:=by
 unfold DU at he;cases au:a' P t with
 | none=>rw [au] at he;cases he
 | some aP=>
   rw [au] at he;simp only at he;cases bn:aP.zero with
   | none=>rw [bn] at he;cases he
   | some z=>
     rw [bn] at he;simp only at he;obtain ⟨x,ai,o0,mY⟩:=zN (P:=P) au bn E w;have hu:=fB au w;have Tl:bh E z.cells x.cells.toList:=by
      rw [mY];have:∀y:Value,bh E (hr y).cells y.cells.toList:=by
       intro y;cases y with
       | agg cs=>simp only [hr,V.cells,Value.cells];exact Ch E _
       | pointer a=>cases a<;>simp [hr,jI,V.cells,Value.cells,bh,Rel]
       | slice a n c=>
         have:=uv E (.slice a n c);cases a with
         | some a=>simp [hr,jI,V.cells,Value.cells,bh,Rel]
         | none=>
           simp only [hr,jI] at this ⊢;cases ae:(Nat.beq n 0&&Nat.beq c 0) with
           | false=>simp [V.cells,Value.cells,bh,Rel]
           | true=>rw [ae] at this;simpa [V.cells,Value.cells,bh] using this
       | map r=>cases r<;>simp [hr,jI,V.cells,Value.cells,bh,Rel]
       | tuple cs=>
         have:=uv E (.tuple cs);simp only [hr,V.cells,Value.cells,bh] at this ⊢;exact ⟨_,_,rfl,this,rfl⟩
       | _=>simp [hr,jI,V.cells,Value.cells,bh,Rel]
      exact this x
     cases bR:aP.bg with
     | struct cl=>
       rw [bR] at he hu;simp only at he;cases aD:Ey P cl.toList with
       | false=>rw [aD] at he;cases he
       | true=>
         rw [aD] at he;simp only [cond_true] at he;cases aB:mH (ym P cl) z.cells bj with
         | none=>rw [aB] at he;cases he
         | some cs=>
           rw [aB] at he;simp only [Option.some.injEq] at he;subst he
           let k:Field->Nat × Nat:=fun f=>(f.offset,((a' P f.type).map (·.size)).getD 0)
           have mS:(cl.mapM fun f=>do pure (f.offset,<-sizeOf f.type):Sem (Array (Nat × Nat))).run P w=.ok (cl.map k) w:=by
            rw [Array.mapM_eq_mapM_toList,Sem.run_map,Wr _ k w cl.toList]
            . simp only [Result.andThen_ok];congr 1;apply Array.ext';simp
            . intro f jz;have:=List.all_eq_true.1 aD f jz;cases y1:a' P f.type with
              | none=>rw [y1] at this;simp at this
              | some kB=>simp only [Sem.run_bind,j9 y1,Result.andThen_ok,Sem.run_pure,k,y1];rfl
           have afI:(fun i=>(cl.map k)[i]?)=ym P cl:=by
            funext i;simp only [ym,Array.getElem?_map];cases aq:cl[i]? with
            | none=>rfl
            | some f=>
              have yP:f ∈ cl.toList:=by have:=List.mem_of_getElem? (l:=cl.toList) (i:=i) (a:=f) (by simpa using aq);exact this
              have:=List.all_eq_true.1 aD f yP;cases y1:a' P f.type with
              | none=>rw [y1] at this;simp at this
              | some kB=>simp [k,y1]
           obtain ⟨b,jy,mL⟩:=A6 (a:=x.cells) af Tl aB;refine ⟨.agg b,?_,by simp only [Rel];exact ⟨b,rfl,mL⟩⟩;simp only [Instr.build,Sem.run_bind,ai,hu,Result.andThen_ok,mS];rw [afI];simp only [jy,Sem.run_pure]
     | array n e=>
       rw [bR] at he hu;simp only at he;cases cq:a' P e with
       | none=>rw [cq] at he;cases he
       | some a_=>
         rw [cq] at he;simp only at he;cases aB:mH (fun i=>some (i * a_.size,a_.size)) z.cells bj with
         | none=>rw [aB] at he;cases he
         | some cs=>
           rw [aB] at he;simp only [Option.some.injEq] at he;subst he;obtain ⟨b,jy,mL⟩:=A6 (a:=x.cells) af Tl aB;refine ⟨.agg b,?_,by simp only [Rel];exact ⟨b,rfl,mL⟩⟩;simp only [Instr.build,Sem.run_bind,ai,hu,Result.andThen_ok,j9 cq,jy,Sem.run_pure]
     | _=>rw [bR] at he;cases he
theorem zJ {E:Env} {z:List V} {l:Array Value} (bn:bh E z l.toList):∀n:Nat,bh E (hI z n) ((Array.range (n * l.size)).map (l[· % l.size]!)).toList:=by
 have af1:(List.range l.size).map (l[· % l.size]!)=l.toList:=by
  apply List.ext_getElem?;intro i;simp only [List.getElem?_map];by_cases aq:i<l.size
  . rw [List.getElem?_range aq];simp only [Option.map,Nat.mod_eq_of_lt aq,Array.getElem?_toList];rw [getElem!_pos l i aq,Array.getElem?_eq_getElem aq]
  . rw [List.getElem?_eq_none (by simp;omega),Array.getElem?_toList,Array.getElem?_eq_none (by omega)];rfl
 intro n;simp only [Array.toList_map,Array.toList_range]
 induction n with
 | zero=>simp [hI,bh]
 | succ n bd=>
   have e:(n+1) * l.size=l.size+n * l.size:=by rw [Nat.add_mul];omega
   rw [e,List.range_add,List.map_append,af1,List.map_map];have aZ:((l[· % l.size]!) ∘ fun x=>l.size+x)=(l[· % l.size]!):=by funext x;simp
   rw [aZ];exact bn.append bd
theorem tc {E:Env} {t:TypeId} {aP:nF} {z:V} (au:a' P t=some aP) (bn:aP.zero=some z) (w:World):∃x:Value,(∀w,(zeroValue t).run P w=.ok x w)/\bh E z.cells x.cells.toList/\x.cells.size=z.cells.length:=by
 obtain ⟨x,ai,_,mY⟩:=zN (P:=P) au bn E w;obtain ⟨i,aa,_,_,_,_,cA⟩:=uU au;rw [bn] at cA;have Fw:∃y,i.zero=some y:=by cases aA:i.zero with | none=>rw [aA] at cA;cases cA | some y=>exact ⟨y,rfl⟩
 obtain ⟨y,a1⟩:=Fw;have cV:∀w,(zeroValue t).run P w=.ok y w:=fun w=>by simp only [zeroValue,Sem.run_bind,zM aa,Result.andThen_ok,a1];rfl
 have za:y=x:=by have:=cV w;rw [ai] at this;simp at this;exact this.symm
 subst za;refine ⟨_,cV,?_,?_⟩
 . rw [mY];have:∀y:Value,bh E (hr y).cells y.cells.toList:=by
    intro y;cases y with
    | agg cs=>simp only [hr,V.cells,Value.cells];exact Ch E _
    | pointer a=>cases a<;>simp [hr,jI,V.cells,Value.cells,bh,Rel]
    | slice a n c=>
      have:=uv E (.slice a n c);cases a with
      | some a=>simp [hr,jI,V.cells,Value.cells,bh,Rel]
      | none=>
        simp only [hr,jI] at this ⊢;cases ae:(Nat.beq n 0&&Nat.beq c 0) with
        | false=>simp [V.cells,Value.cells,bh,Rel]
        | true=>rw [ae] at this;simpa [V.cells,Value.cells,bh] using this
    | map r=>cases r<;>simp [hr,jI,V.cells,Value.cells,bh,Rel]
    | tuple cs=>
      have:=uv E (.tuple cs);simp only [hr,V.cells,Value.cells,bh] at this ⊢;exact ⟨_,_,rfl,this,rfl⟩
    | _=>simp [hr,jI,V.cells,Value.cells,bh,Rel]
   exact this _
 . rw [mY,ak7]
theorem aap {ay:Fr} {E:Env} {h ab:ah} {w:World} (s:bf ay E h w) {t:TypeId} {n:Nat} {bj:List (Nat × V)} {g_:List (Nat × Value)} {v:V} (af:rS E bj g_) (he:(vv P t n).run bj h=.val v ab):
 c8 ay P E w (Instr.buildSlice t n g_.toArray) v ab:=by
 unfold vv at he;cases au:a' P t with
 | none=>rw [au] at he;cases he
 | some aP=>
   rw [au] at he;simp only at he;have hu:=fB au;cases bR:aP.bg with
   | slice e=>
     rw [bR] at he hu;simp only at he;cases cq:a' P e with
     | none=>rw [cq] at he;cases he
     | some a_=>
       rw [cq] at he;simp only at he;cases bn:a_.zero with
       | none=>rw [bn] at he;cases he
       | some z=>
         rw [bn] at he;simp only at he;cases aC:(Nat.ble (n * a_.size) 1000000&&Nat.beq z.cells.length a_.size) with
         | false=>rw [aC] at he;cases he
         | true=>
           rw [aC] at he;simp only [cond_true] at he;simp only [Bool.and_eq_true,Nat.ble_eq,Nat.beq_eq] at aC;cases aB:mH (fun i=>some (i * a_.size,a_.size)) (hI z.cells n) bj with
           | none=>rw [aB] at he;cases he
           | some cs=>
             rw [aB] at he;simp only at he;cases aQ:gq h cs with
             | none=>rw [aQ] at he;cases he
             | some aa=>
               rw [aQ] at he;simp only [a7.val.injEq] at he;obtain ⟨rfl,rfl⟩:=he;obtain ⟨x,ai,o0,o1⟩:=tc (P:=P) (E:=E) cq bn w;have sw:x.cells.size=a_.size:=by rw [o1,aC.2]
               have sr:=zJ o0 n;rw [sw] at sr;obtain ⟨b,jy,mL⟩:=A6 (a:=(Array.range (n * a_.size)).map (x.cells[· % x.cells.size]!)) af (by rw [sw];exact sr) aB;obtain ⟨aw,g1,g2,g3,g4⟩:=F4 (P:=P) s mL aQ e;refine ⟨.slice (some ⟨w.heap.size,0,none⟩) n n,_,aw,?_,g1,?_,g4⟩
               . have wi:¬16777216<n * a_.size:=by omega
                 have kE:(newRow e b).run P w=.ok ⟨w.heap.size,0,none⟩ {w with heap:=w.heap.push (.cells b e)}:=by simpa using g3
                 by_cases a8:n * a_.size=0
                 . have J7:Instr.fill (fun i=>some (i * a_.size,a_.size)) ((Array.range (n * a_.size)).map ((#[]:Array Value)[· % 0]!)) g_=some b:=by
                    have aN:(Array.range (n * a_.size)).map ((#[]:Array Value)[· % 0]!)=(Array.range (n * a_.size)).map (x.cells[· % x.cells.size]!):=by rw [a8];simp
                    rw [aN];exact jy
                   have J8:Instr.fill (fun i=>some (i * a_.size,a_.size)) ((Array.range (n * a_.size)).map (fun x=>(#[]:Array Value)[x % (#[]:Array Value).size]!)) g_=some b:=J7;simp only [Instr.buildSlice,Sem.run_bind,hu,Result.andThen_ok,j9 cq,Sem.run_ite];rw [if_neg wi];simp only [Sem.run_pure,Result.andThen_ok,if_pos a8];rw [J8];simp only [Sem.run_bind,kE,Result.andThen_ok,Sem.run_pure]
                 . simp only [Instr.buildSlice,Sem.run_bind,hu,Result.andThen_ok,j9 cq,Sem.run_ite];rw [if_neg wi];simp only [Sem.run_pure,Result.andThen_ok,if_neg a8,ai];rw [jy];simp only [Sem.run_bind,kE,Result.andThen_ok,Sem.run_pure]
               . simp only [Rel];exact ⟨_,g2,Nat.le_refl _,by simp⟩
   | _=>rw [bR] at he;cases he
theorem aki {ay:Fr} {E:Env} {h ab:ah} {w:World} (s:bf ay E h w) {t:TypeId} {x y v:V} {X Y:Value} (ai:Rel E x X) (a1:Rel E y Y) (he:(wO P t).run x y h=.val v ab):
 c8 ay P E w (Instr.makeSlice t X Y) v ab:=by
 unfold wO at he;cases au:a' P t with
 | none=>rw [au] at he;cases he
 | some aP=>
   rw [au] at he;simp only at he;have hu:=fB au;cases bR:aP.bg with
   | slice e=>
     rw [bR] at he hu;simp only at he;cases cq:a' P e with
     | none=>rw [cq] at he;cases he
     | some a_=>
       rw [cq] at he;simp only at he;cases bn:a_.zero with
       | none=>rw [bn] at he;cases he
       | some z=>
         rw [bn] at he;simp only at he;cases vV:Nat.ble a_.bytes 4096 with
         | false=>rw [vV] at he;cases he
         | true=>
           rw [vV] at he;simp only [cond_true,zp] at he;obtain ⟨bK,l,rfl,yF⟩:=sO he;obtain ⟨bT,c,rfl,ef⟩:=sO yF;have:=ai.iQ;subst this;have:=a1.iQ;subst this;obtain ⟨aC,pV⟩:=jv ef;simp only [Bool.and_eq_true,n2,decide_eq_true_eq,Nat.beq_eq] at aC;obtain ⟨⟨a8,aa,ad⟩,aH⟩:=aC;rw [Nat.ble_eq] at vV;cases aQ:gq h (hI z.cells c.toNat) with
           | none=>rw [aQ] at pV;cases pV
           | some bk=>
             rw [aQ] at pV;simp only [a7.val.injEq] at pV;obtain ⟨rfl,rfl⟩:=pV;obtain ⟨ll,wA,o0,o1⟩:=tc (P:=P) (E:=E) cq bn w;have sw:ll.cells.size=a_.size:=by rw [o1,aH]
             have sr:=zJ o0 c.toNat;obtain ⟨aw,g1,g2,g3,g4⟩:=F4 (P:=P) s sr aQ e;obtain ⟨i,aq,q0⟩:=GJ (P:=P) cq w;have oZ:IntKind.i64.wrap l=l:=by simp only [IntKind.wrap,IntKind.bits,IntKind.signed];simp;omega
             have Lf:IntKind.i64.wrap c=c:=by simp only [IntKind.wrap,IntKind.bits,IntKind.signed];simp;omega
             have hmul:(a_.bytes:Int) * c<=4096 * 1000000:=by
              have ae:(a_.bytes:Int)<=4096:=by omega
              have:=Int.mul_le_mul_of_nonneg_right (c:=c) ae (by omega);omega
             refine ⟨.slice (some ⟨w.heap.size,0,none⟩) l.toNat c.toNat,_,aw,?_,g1,?_,g4⟩
             . have kE:=g3;simp only [Array.toArray_toList] at kE;have bS:¬c<0:=by omega
               have bX:¬((a_.bytes:Int) * c>281474976710656):=by omega
               have c3:¬l<0:=by omega
               have fu:¬l>c:=by omega
               have same:(if c.toNat * a_.size=0 then (Array.range (c.toNat * a_.size)).map (fun x=>(#[]:Array Value)[x % (#[]:Array Value).size]!) else (Array.range (c.toNat * a_.size)).map (fun x=>ll.cells[x % ll.cells.size]!))=
                (Array.range (c.toNat * ll.cells.size)).map (ll.cells[· % ll.cells.size]!):=by
                rw [sw];by_cases aA:c.toNat * a_.size=0
                . rw [aA];simp
                . rw [if_neg aA]
               simp only [Instr.makeSlice,Sem.run_bind,hu,Result.andThen_ok,asInt,asIntOf,Sem.run_pure,aq,oZ,Lf,q0];rw [if_neg (by simp only [Bool.or_eq_true,decide_eq_true_eq,not_or];exact ⟨⟨⟨bS,bX⟩,c3⟩,fu⟩)];simp only [Result.andThen_ok,Sem.run_bind,run_askRoom,j9 cq];by_cases aA:c.toNat * a_.size=0
               . rw [if_pos aA] at same;rw [if_pos aA];simp only [Sem.run_pure,Result.andThen_ok,Sem.run_bind,same,kE,Array.toArray_toList]
               . rw [if_neg aA] at same;rw [if_neg aA];simp only [Sem.run_pure,Result.andThen_ok,Sem.run_bind,wA,same,kE,Array.toArray_toList]
             . simp only [Rel];exact ⟨_,g2,by omega,by simp⟩
   | _=>rw [bR] at he;cases he
end
theorem aO.kY:∀{p q:aO},aO.gz p q=true->p=q
 | .z,.z,_=>rfl
 | .l p,.l q,h=>by rw [aO.kY (p:=p) (q:=q) h]
 | .r p,.r q,h=>by rw [aO.kY (p:=p) (q:=q) h]
 | .z,.l _,h=>by cases h
 | .z,.r _,h=>by cases h
 | .l _,.z,h=>by cases h
 | .l _,.r _,h=>by cases h
 | .r _,.z,h=>by cases h
 | .r _,.l _,h=>by cases h
theorem aO.yf:∀p:aO,aO.gz p p=true
 | .z=>rfl
 | .l p=>aO.yf p
 | .r p=>aO.yf p
section
variable {P:Program}
theorem Vo {ay:Fr} {E:Env} {h:ah} {w:World} (s:bf ay E h w) {b:aO} {p:jr} (af:E b=some p) (ae:(h.get b).zD=true):(h.get b).own=true/\∃c t,w.heap[p.aW]? =some (.cells c t (0,0)):=by
 have aD:=s.at af;cases aF:h.get b<;>rw [aF] at ae<;>try (cases ae;done)
 rename_i n cs cX st;rw [aF] at aD;obtain ⟨_,p',c,el,bZ,aN,_,qZ,_,cL,_⟩:=aD;rw [af] at aN;cases aN;have:st=false:=by simpa [b9.zD] using ae
 rw [cL this] at qZ;exact ⟨rfl,c,el,qZ⟩
theorem VL {t:TypeId} (h:jf P t=true):∃e j,P.underlying t=some (.pointer e)/\P.info? e=some j/\j.size≠0:=by
 unfold jf at h;cases au:a' P t with
 | none=>rw [au] at h;cases h
 | some aP=>
   rw [au] at h;simp only at h;cases hu:aP.bg<;>rw [hu] at h<;>simp only at h<;>try (cases h;done)
   rename_i e;cases he:a' P e with
   | none=>rw [he] at h;cases h
   | some a_=>
     rw [he] at h;simp only at h;obtain ⟨_,_,ad,_⟩:=uU au;obtain ⟨j,g1,_,g3,_⟩:=uU he;refine ⟨e,j,by rw [ad,hu],g1,fun cz=>?_⟩;rw [g3,cz] at h;cases h
theorem al2 {t:TypeId} (h:jf P t=true) (w:World):∃e,(underlying t).run P w=.ok (.pointer e) w:=by obtain ⟨e,_,aa,_⟩:=VL h;exact ⟨e,MY aa w⟩
theorem amD {t e:TypeId} {w:World} (hu:(underlying t).run P w=.ok (.pointer e) w) (b:Bool) (v:Value):(Instr.checkKey b 10000 t v).run P w=.ok () w:=by show (Instr.checkKey b (9999+1) t v).run P w=.ok () w;unfold Instr.checkKey;rw [Sem.run_bind,hu];rfl
theorem VJ {ay:Fr} {E:Env} {h:ah} {w:World} (s:bf ay E h w) {t:TypeId} (au:jf P t=true) {x y:V} {X Y:Value} {b:Bool} (he:g' h x y=some b) (ai:Rel E x X) (a1:Rel E y Y):
 (∃a c,X=.pointer (some a)/\Y=.pointer (some c))/\∀d,(Op.equalIn (d+1) t X Y).run P w=.ok b w:=by
 obtain ⟨e,j,af,cq,b'⟩:=VL au;unfold g' at he
 split at he
 case h_2=>cases he
 rename_i cn dk
 split at he
 case h_2=>cases he
 rename_i ch dH;simp only [Rel] at ai a1;obtain ⟨p,h7,rfl⟩:=ai;obtain ⟨q,hF,rfl⟩:=a1;refine ⟨⟨_,_,rfl,rfl⟩,fun d=>?_⟩;cases heq:aO.gz cn ch with
 | true=>
   rw [heq] at he;simp only [cond_true,Option.some.injEq] at he;have:=aO.kY heq;subst this;rw [h7] at hF;cases hF;have ae:b=decide (dk=dH):=by
    rw [<-he];by_cases h:dk=dH
    . subst h;simp
    . rw [decide_eq_false h,<-Bool.not_eq_true,Nat.beq_eq];exact h
   have key:(sameAddr ⟨p.aW,p.base+dk,none⟩ ⟨p.aW,p.base+dH,none⟩).run P w=.ok b w:=by
    rw [ae];by_cases h:dk=dH
    . subst h;simpa using run_sameAddr_same w (⟨p.aW,p.base+dk,none⟩:Addr)
    . have cR:((⟨p.aW,p.base+dk,none⟩:Addr) == ⟨p.aW,p.base+dH,none⟩)=false:=by
       rw [beq_eq_false_iff_ne];intro e;injection e with _ aZ _
       omega
      simp [sameAddr,cR,h]
   simp [Op.equalIn,run_underlying af,sizeOf,typeInfo,cq,b',key]
 | false=>
   rw [heq] at he;simp only [cond_false] at he;obtain ⟨aC,he⟩:=ey he;simp only [Bool.and_eq_true] at aC;cases he;obtain ⟨Me,bS,t1,qY⟩:=Vo s h7 aC.1;obtain ⟨Mf,bX,t2,Kt⟩:=Vo s hF aC.2;have cR:(⟨p.aW,p.base+dk,none⟩:Addr)≠⟨q.aW,q.base+dH,none⟩:=by
    intro e;injection e with aN _ _
    have:=s.inj cn ch p q Me Mf h7 hF aN;subst this;rw [aO.yf] at heq;cases heq
   simp [Op.equalIn,run_underlying af,sizeOf,typeInfo,cq,b',run_sameAddr_other w cR qY Kt]
theorem VI {ay:Fr} {E:Env} {h:ah} {w:World} (s:bf ay E h w) {op:BinOp} {t:TypeId} {neg:Bool} (lE:w6 P op t=some neg) {x y:V} {fm h_:Operand} {X Y:Value} {b:Bool} (he:g' h x y=some b) (ai:Rel E x X) (a1:Rel E y Y):
 ∃Z,(do eqGuard op t fm h_ X Y;binOp op t X Y:Sem Value).run P w=.ok Z w/\Rel E (.bool (bif neg then !b else b)) Z:=by
 unfold w6 at lE;have main:jf P t=true->((op=.eql/\neg=false)\/(op=.neq/\neg=true))->∃Z,(do eqGuard op t fm h_ X Y;binOp op t X Y:Sem Value).run P w=.ok Z w/\Rel E (.bool (bif neg then !b else b)) Z:=by
  intro au j0;obtain ⟨⟨a,c,rfl,rfl⟩,cV⟩:=VJ s au he ai a1;have aF:=fun (o:BinOp)=>Em (P:=P) (op:=o) (t:=t) (x:=fm) (y:=h_) (X:=.pointer (some a)) (Y:=.pointer (some c)) (by simp) (.inl (by simp)) w;have aN:(Op.equal t (.pointer (some a)) (.pointer (some c))).run P w=.ok b w:=cV 9999;rcases j0 with ⟨rfl,rfl⟩ | ⟨rfl,rfl⟩
  . refine ⟨.bool b,?_,by simp [Rel]⟩;rw [Sem.run_bind,aF,Result.andThen_ok,binOp_eql (X:=.pointer (some a)) True.intro,Sem.run_bind,aN];rfl
  . refine ⟨.bool (!b),?_,by simp [Rel]⟩;rw [Sem.run_bind,aF,Result.andThen_ok,binOp_neq (X:=.pointer (some a)) True.intro,Sem.run_bind,aN];rfl
 cases op<;>simp only at lE<;>try (cases lE;done)
 . obtain ⟨aa,ad⟩:=ey lE;cases ad;exact main aa (.inl ⟨rfl,rfl⟩)
 . obtain ⟨aa,ad⟩:=ey lE;cases ad;exact main aa (.inr ⟨rfl,rfl⟩)
end
section
variable {P:Program}
def xQ (P:Program) (w:World) (E:Env) (cw:TypeId) (e:dG):Prop:=
 ∀k bo K nB b,e.run k bo=some b->Rel E k K->Rel E bo nB->(Op.equal cw K nB).run P w=.ok b w/\(b=true->nB=K/\Instr.sameBits 10000 K K=true)
theorem al1 {ay:Fr} {E:Env} {h:ah} {w:World} (s:bf ay E h w) {cw:TypeId} (au:jf P cw=true):xQ P w E cw ⟨g' h⟩:=by
 intro k bo K nB b he ai a1;obtain ⟨⟨a,c,rfl,rfl⟩,cV⟩:=VJ s au he ai a1;refine ⟨cV 9999,fun ae=>?_⟩;subst ae;simp only [g'] at he
 split at he
 case h_2=>cases he
 split at he
 case h_2=>cases he
 rename_i cn dk _ ch dH;simp only [Rel] at ai a1;obtain ⟨p,h7,ai⟩:=ai;obtain ⟨q,hF,a1⟩:=a1;cases heq:aO.gz cn ch with
 | false=>
   rw [heq] at he;simp only [cond_false] at he;obtain ⟨_,he⟩:=ey he;cases he
 | true=>
   rw [heq] at he;simp only [cond_true,Option.some.injEq] at he;have:=aO.kY heq;subst this;rw [h7] at hF;cases hF;have:=Nat.eq_of_beq_eq_true he;subst this;rw [ai,a1];exact ⟨rfl,by simp [Instr.sameBits]⟩
theorem RC {w:World} {E:Env} {cw:TypeId} {e:dG} (eB:xQ P w E cw e) {k:V} {K:Value} (aD:Rel E k K):∀(es:List cE) (l:List MapEntry) (r:Option V) (i:Nat),mI e k es=some r->ew E es l->
 ∃R,(Instr.findAsking cw K l i).run P w=.ok R w/\(match r with
  | none=>R=none
  | some v=>∃j Y,R=some (j,Y)/\Rel E v Y)
 | [],l,r,i,h,aG=>by simp only [ew] at aG;subst aG;simp only [mI,Option.some.injEq] at h;subst h;exact ⟨none,rfl,rfl⟩
 | m::ms,l,r,i,h,aG=>by
   obtain ⟨dM,es,rfl,aa,ad,aH,bt⟩:=aG;simp only [mI] at h;cases aM:e.run k m.k with
   | none=>rw [aM] at h;cases h
   | some b=>
     rw [aM] at h;simp only at h;obtain ⟨ao,ax⟩:=eB _ _ _ _ _ aM aD aa;cases b with
     | true=>
       simp only [cond_true,Option.some.injEq] at h;subst h;exact ⟨some (i,dM.val),by simp [Instr.findAsking,ao],i,dM.val,rfl,ad⟩
     | false=>
       simp only [cond_false] at h;obtain ⟨R,g1,g2⟩:=RC eB aD ms es r (i+1) h bt;exact ⟨R,by simp [Instr.findAsking,ao,g1],g2⟩
theorem VN {w:World} {E:Env} {cw:TypeId} {e:dG} (eB:xQ P w E cw e) {k v:V} {K X:Value} (aD:Rel E k K) (ba:Rel E v X) (clock:Nat):∀(es:List cE) (l:List MapEntry) (r:List cE × Bool) (i:Nat),kM e k v clock es=some r->ew E es l->
 (r.2=true->(Instr.findAsking cw K l i).run P w=.ok none w/\ew E r.1 (l++[⟨K,X,clock⟩]))/\
 (r.2=false->∃j dM Y,(Instr.findAsking cw K l i).run P w=.ok (some (i+j,Y)) w/\l[j]? =some dM/\Instr.sameBits 10000 dM.key K=true/\ew E r.1 (l.modify j fun dM=>{dM with key:=K,val:=X}))
 | [],l,r,i,h,aG=>by simp only [ew] at aG;subst aG;simp only [kM,Option.some.injEq] at h;subst h;exact ⟨fun _=>⟨rfl,_,_,rfl,aD,ba,rfl,rfl⟩,fun h=>by cases h⟩
 | m::ms,l,r,i,h,aG=>by
   obtain ⟨dM,es,rfl,aa,ad,aH,bt⟩:=aG;simp only [kM] at h;cases aM:e.run k m.k with
   | none=>rw [aM] at h;cases h
   | some b=>
     rw [aM] at h;simp only at h;obtain ⟨ao,ax⟩:=eB _ _ _ _ _ aM aD aa;cases b with
     | true=>
       simp only [cond_true,Option.some.injEq] at h;subst h;obtain ⟨aL,bY⟩:=ax rfl;refine ⟨fun h=>(by cases h),fun _=>⟨0,dM,dM.val,by simp [Instr.findAsking,ao],rfl,by rw [aL];exact bY,?_⟩⟩;exact ⟨_,es,rfl,aD,ba,aH,bt⟩
     | false=>
       simp only [cond_false] at h;cases af:kM e k v clock ms with
       | none=>rw [af] at h;cases h
       | some bu=>
         rw [af] at h;simp only [Option.some.injEq] at h;subst h;obtain ⟨g1,g2⟩:=VN eB aD ba clock ms es bu (i+1) af bt;refine ⟨fun h=>?_,fun h=>?_⟩
         . obtain ⟨bN,a2⟩:=g1 h;exact ⟨by simp [Instr.findAsking,ao,bN],⟨dM,es++[⟨K,X,clock⟩],rfl,aa,ad,aH,a2⟩⟩
         . obtain ⟨j,c9,Y,bN,a2,a3,a4⟩:=g2 h;exact ⟨j+1,c9,Y,by simp [Instr.findAsking,ao,bN];omega,by simpa using a2,a3,⟨dM,_,rfl,aa,ad,aH,a4⟩⟩
theorem amF {cw:TypeId} {hg:TypeId} {w:World} (hu:(underlying cw).run P w=.ok (.pointer hg) w) {K:Value} {l:List MapEntry} {R:Option (Nat × Value)} (h:(Instr.findAsking cw K l 0).run P w=.ok R w):
 (Instr.findKey cw K l).run P w=.ok R w:=by
 cases l with
 | nil=>
   simp only [Instr.findAsking,Sem.run_pure] at h;cases h;simp [Instr.findKey,hu,Instr.findNow]
 | cons dM es=>
   have aQ:Instr.findNow (.pointer hg) K (dM::es) 0=none:=by simp [Instr.findNow,Instr.sameNow]
   simp [Instr.findKey,hu,aQ,h]
theorem acM {x y:V} (h:vE x y=true):x=y:=by
 cases x<;>simp only [vE] at h<;>try (cases h;done)
 all_goals (cases y<;>simp only at h<;>try (cases h;done))
 . rw [beq_iff_eq] at h;rw [h]
 . simp only [Bool.and_eq_true,kY,beq_iff_eq] at h;rw [tH h.1,h.2]
 . rw [vs,beq_iff_eq] at h;rw [h]
theorem Ro:∀{xs cT:List V},vF xs cT=true->xs=cT
 | [],[],_=>rfl
 | [],_::_,h=>by cases h
 | _::_,[],h=>by cases h
 | x::xs,y::cT,h=>by
   simp only [vF] at h;cases aa:vE x y with
   | false=>rw [aa] at h;cases h
   | true=>rw [aa] at h;rw [acM aa,Ro h]
theorem acL {E:Env} {x:V} {X Y:Value} (h:vE x x=true) (cp:Rel E x X) (eM:Rel E x Y):X=Y/\∀n,Instr.sameBits n X X=true:=by
 cases x<;>simp only [vE] at h<;>try (cases h;done)
 . simp only [Rel] at cp eM;subst cp eM;exact ⟨rfl,fun n=>by cases n<;>simp [Instr.sameBits]⟩
 . simp only [Rel] at cp eM;subst cp eM;exact ⟨rfl,fun n=>by cases n<;>simp [Instr.sameBits]⟩
 . simp only [Rel] at cp eM;subst cp eM;exact ⟨rfl,fun n=>by cases n<;>simp [Instr.sameBits,bytes_beq]⟩
theorem Rn {E:Env}:∀{xs:List V} {l cG:List Value},vF xs xs=true->bh E xs l->bh E xs cG->l=cG/\∀n,((l.zip l).all fun (x,y)=>Instr.sameBits n x y)=true
 | [],l,cG,_,aa,ad=>by simp only [bh] at aa ad;subst aa ad;exact ⟨rfl,fun _=>rfl⟩
 | x::xs,l,cG,h,aa,ad=>by
   obtain ⟨y,cT,rfl,bN,a2⟩:=aa;obtain ⟨xx,arq,rfl,cn,ch⟩:=ad;simp only [vF] at h;cases aC:vE x x with
   | false=>rw [aC] at h;cases h
   | true=>
     rw [aC] at h;obtain ⟨rfl,ao⟩:=acL aC bN cn;obtain ⟨rfl,ax⟩:=Rn h a2 ch;exact ⟨rfl,fun n=>by simp only [List.zip_cons_cons,List.all_cons,ao,ax,Bool.and_self]⟩
theorem anr {w:World} {E:Env} {cw:TypeId}:xQ P w E cw (structEq P cw):=by
 intro k bo K nB b he ai a1;simp only [structEq] at he
 split at he
 case h_2=>cases he
 split at he
 case h_2=>cases he
 rename_i xs _ cT;cases aA:(hB P 12 cw).run (.agg xs) (.agg cT) with
 | none=>rw [aA] at he;cases he
 | some c=>
   rw [aA] at he;have aM:=JD 12 Op.maxDepth cw _ _ K nB c (by decide) aA ai a1 w;cases c with
   | false=>
     simp only [cond_false,Option.some.injEq] at he;subst he;exact ⟨aM,fun h=>by cases h⟩
   | true=>
     simp only [cond_true] at he;cases af:vF xs cT with
     | false=>rw [af] at he;cases he
     | true=>
       rw [af] at he;simp only [cond_true,Option.some.injEq] at he;subst he;refine ⟨aM,fun _=>?_⟩;have:=Ro af;subst this;simp only [Rel] at ai a1;obtain ⟨a,rfl,aa⟩:=ai;obtain ⟨bs,rfl,ad⟩:=a1;obtain ⟨e,q⟩:=Rn af aa ad;have c9:a=bs:=Array.toList_inj.1 e;subst c9;exact ⟨rfl,by show Instr.sameBits (9999+1) _ _=true;simp only [Instr.sameBits,beq_self_eq_true,Bool.true_and];exact q _⟩
theorem run_checkKey_plain {bg:TypeDesc} (aB:kH bg=true) {t:TypeId} {w:World} (hu:(underlying t).run P w=.ok bg w) (b:Bool) (n:Nat) (v:Value):(Instr.checkKey b (n+1) t v).run P w=.ok () w:=by
 unfold Instr.checkKey;rw [Sem.run_bind,hu];cases bg<;>simp only [kH] at aB<;>first
  | (cases aB;done)
  | rfl
theorem adk {w:World} {E:Env} {cs:List V} {a:Array Value} (aV:bh E cs a.toList) (b:Bool) (n:Nat):∀(cl:List Field),Ex P cs cl=true->
 (do for f in cl do
      if f.name≠ "_" then Instr.checkKey b (n+1) f.type (<-part f.type a f.offset):Sem Unit).run P w=.ok () w:=by
 intro cl
 induction cl with
 | nil=>intro _;simp
 | cons f cl bd=>
   intro h;simp only [Ex] at h;cases aa:(qe P f.type f.offset).run cs with
   | none=>rw [aa] at h;cases h
   | some x=>
     rw [aa] at h;simp only at h;cases ad:a' P f.type with
     | none=>rw [ad] at h;cases h
     | some kB=>
       rw [ad] at h;simp only at h;cases aH:kH kB.bg with
       | false=>rw [aH] at h;cases h
       | true=>
         rw [aH] at h;simp only [cond_true] at h;obtain ⟨X,cp,_⟩:=Ct aV aa w;have aD:=run_checkKey_plain (P:=P) aH (fB ad w) b n X;have:=bd h;by_cases aQ:f.name= "_"
         . simpa [aQ] using this
         . simpa [aQ,cp,aD] using this
theorem ans {t:TypeId} (h:lV P t=true) (w:World):∃cl,(underlying t).run P w=.ok (.struct cl) w:=by
 unfold lV at h;cases au:a' P t with
 | none=>rw [au] at h;cases h
 | some aP=>
   rw [au] at h;simp only at h;have hu:=fB au w;cases bR:aP.bg<;>rw [bR] at h<;>simp only at h<;>try (cases h;done)
   rw [bR] at hu;exact ⟨_,hu⟩
theorem amE {t:TypeId} {k:V} (aF:m' P t k=true) {E:Env} {K:Value} (aD:Rel E k K) {w:World} (b:Bool):(Instr.checkKey b 10000 t K).run P w=.ok () w:=by
 unfold m' at aF;cases au:a' P t with
 | none=>rw [au] at aF;cases aF
 | some aP=>
   rw [au] at aF;simp only at aF;have hu:=fB au w;cases bR:aP.bg<;>rw [bR] at aF<;>simp only at aF<;>try (cases aF;done)
   rename_i cl;rw [bR] at hu;cases k<;>simp only at aF<;>try (cases aF;done)
   rename_i cs;simp only [Rel] at aD;obtain ⟨a,rfl,aV⟩:=aD;show (Instr.checkKey b (9998+1+1) t (.agg a)).run P w=.ok () w;unfold Instr.checkKey;rw [Sem.run_bind,hu];have:=adk (P:=P) (w:=w) aV b 9998 cl.toList aF;simp only [Result.andThen_ok,Array.forIn_toList] at this ⊢;exact this
theorem amG {cw:TypeId} {cl:Array Field} {w:World} (hu:(underlying cw).run P w=.ok (.struct cl) w) {K:Value} {l:List MapEntry} {R:Option (Nat × Value)} (h:(Instr.findAsking cw K l 0).run P w=.ok R w):
 (Instr.findKey cw K l).run P w=.ok R w:=by
 cases l with
 | nil=>
   simp only [Instr.findAsking,Sem.run_pure] at h;cases h;simp [Instr.findKey,hu,Instr.findNow]
 | cons dM es=>
   have aQ:Instr.findNow (.struct cl) K (dM::es) 0=none:=by simp [Instr.findNow,Instr.sameNow]
   simp [Instr.findKey,hu,aQ,h]
structure Ab (P:Program) (w:World) (E:Env) (cw:TypeId) (e:dG) (K:Value):Prop where
 eq:xQ P w E cw e
 check:∀b,(Instr.checkKey b 10000 cw K).run P w=.ok () w
 find:∀{l:List MapEntry} {R},(Instr.findAsking cw K l 0).run P w=.ok R w->(Instr.findKey cw K l).run P w=.ok R w
theorem IC {ay:Fr} {E:Env} {h:ah} {w:World} (s:bf ay E h w) {cw:TypeId} (au:jf P cw=true) (K:Value):Ab P w E cw ⟨g' h⟩ K:=by obtain ⟨Vk,mP⟩:=al2 au w;exact ⟨al1 s au,fun b=>amD mP b K,fun q=>amF mP q⟩
theorem ID {w:World} {E:Env} {cw:TypeId} (au:lV P cw=true) {k:V} (aF:m' P cw k=true) {K:Value} (aD:Rel E k K):Ab P w E cw (structEq P cw) K:=by obtain ⟨cl,mP⟩:=ans au w;exact ⟨anr,fun b=>amE aF aD b,fun q=>amG mP q⟩
end
section
variable {P:Program}
theorem Ls {E:Env} {bg:TypeDesc} {k bo:V} {K nB:Value} {b:Bool} (he:(k9 bg).run k bo=some b) (ai:Rel E k K) (a1:Rel E bo nB):
 Instr.sameNow bg K nB=some b/\(b=true->nB=K/\∀n,Instr.sameBits n K K=true):=by
 cases bg<;>simp only [k9] at he<;>try (simp [dG.none] at he;done)
 case bool=>
  simp only [qM] at he;cases k<;>simp only at he<;>try (cases he;done)
  cases bo<;>simp only at he<;>try (cases he;done)
  simp only [Rel] at ai a1;subst ai a1;simp only [Option.some.injEq] at he;subst he;refine ⟨rfl,fun h=>?_⟩;rw [beq_iff_eq] at h;subst h;exact ⟨rfl,fun n=>by cases n<;>simp [Instr.sameBits]⟩
 case int jE=>
  simp only [lv] at he;obtain ⟨j,m,rfl,aa⟩:=j7 he;clear he;obtain ⟨zf,cj,rfl,ad⟩:=j7 aa;clear aa;obtain ⟨aD,h⟩:=ey ad;clear ad;have:=tH aD;subst this;simp only [Rel] at ai a1;subst ai a1;simp only [Option.some.injEq,kY] at h;subst h;refine ⟨by simp [Instr.sameNow],fun h=>?_⟩;rw [beq_iff_eq] at h;subst h;exact ⟨rfl,fun n=>by cases n<;>simp [Instr.sameBits]⟩
 case string=>
  simp only [vG] at he;cases k<;>simp only at he<;>try (cases he;done)
  cases bo<;>simp only at he<;>try (cases he;done)
  simp only [Rel] at ai a1;subst ai a1;simp only [Option.some.injEq,vs] at he;subst he;refine ⟨by simp only [Instr.sameNow,bytes_beq],fun h=>?_⟩;rw [beq_iff_eq] at h;subst h;exact ⟨rfl,fun n=>by cases n<;>simp [Instr.sameBits,bytes_beq]⟩
theorem run_checkKey {bg:TypeDesc} (aB:kH bg=true) {t:TypeId} {w:World} (hu:(underlying t).run P w=.ok bg w) (b:Bool) (v:Value):(Instr.checkKey b 10000 t v).run P w=.ok () w:=by
 show (Instr.checkKey b (9999+1) t v).run P w=.ok () w;unfold Instr.checkKey;rw [Sem.run_bind,hu];cases bg<;>simp only [kH] at aB<;>first
  | (cases aB;done)
  | rfl
theorem run_findKey {bg:TypeDesc} {t:TypeId} {w:World} (hu:(underlying t).run P w=.ok bg w) {K:Value} {l:List MapEntry} {R:Option (Nat × Value)} (h:Instr.findNow bg K l 0=some R):
 (Instr.findKey t K l).run P w=.ok R w:=by
 simp only [Instr.findKey,Sem.run_bind,hu,Result.andThen_ok,h,Sem.run_pure]
theorem RH {E:Env} {bg:TypeDesc} {k:V} {K:Value} (aD:Rel E k K):∀(es:List cE) (l:List MapEntry) (r:Option V) (i:Nat),mI (k9 bg) k es=some r->ew E es l->
 ∃R,Instr.findNow bg K l i=some R/\(match r with
  | none=>R=none
  | some v=>∃j Y,R=some (j,Y)/\Rel E v Y)
 | [],l,r,i,h,aG=>by simp only [ew] at aG;subst aG;simp only [mI,Option.some.injEq] at h;subst h;exact ⟨none,rfl,rfl⟩
 | m::ms,l,r,i,h,aG=>by
   obtain ⟨e,es,rfl,aa,ad,aH,bt⟩:=aG;simp only [mI] at h;cases aM:(k9 bg).run k m.k with
   | none=>rw [aM] at h;cases h
   | some b=>
     rw [aM] at h;simp only at h;obtain ⟨ao,ax⟩:=Ls aM aD aa;cases b with
     | true=>
       simp only [cond_true,Option.some.injEq] at h;subst h;exact ⟨some (i,e.val),by simp only [Instr.findNow,ao],i,e.val,rfl,ad⟩
     | false=>
       simp only [cond_false] at h;obtain ⟨R,g1,g2⟩:=RH aD ms es r (i+1) h bt;exact ⟨R,by simp only [Instr.findNow,ao,g1],g2⟩
theorem VV {E:Env} {bg:TypeDesc} {k v:V} {K X:Value} (aD:Rel E k K) (ba:Rel E v X) (clock:Nat):∀(es:List cE) (l:List MapEntry) (r:List cE × Bool) (i:Nat),kM (k9 bg) k v clock es=some r->ew E es l->
 (r.2=true->Instr.findNow bg K l i=some none/\ew E r.1 (l++[⟨K,X,clock⟩]))/\
 (r.2=false->∃j e Y,Instr.findNow bg K l i=some (some (i+j,Y))/\l[j]? =some e/\Instr.sameBits 10000 e.key K=true/\ew E r.1 (l.modify j fun e=>{e with key:=K,val:=X}))
 | [],l,r,i,h,aG=>by simp only [ew] at aG;subst aG;simp only [kM,Option.some.injEq] at h;subst h;exact ⟨fun _=>⟨rfl,_,_,rfl,aD,ba,rfl,rfl⟩,fun h=>by cases h⟩
 | m::ms,l,r,i,h,aG=>by
   obtain ⟨e,es,rfl,aa,ad,aH,bt⟩:=aG;simp only [kM] at h;cases aM:(k9 bg).run k m.k with
   | none=>rw [aM] at h;cases h
   | some b=>
     rw [aM] at h;simp only at h;obtain ⟨ao,ax⟩:=Ls aM aD aa;cases b with
     | true=>
       simp only [cond_true,Option.some.injEq] at h;subst h;obtain ⟨aL,bY⟩:=ax rfl;refine ⟨fun h=>(by cases h),fun _=>⟨0,e,e.val,by simp only [Instr.findNow,ao,Nat.add_zero],rfl,by rw [aL];exact bY _,?_⟩⟩;exact ⟨_,es,rfl,aD,ba,aH,bt⟩
     | false=>
       simp only [cond_false] at h;cases af:kM (k9 bg) k v clock ms with
       | none=>rw [af] at h;cases h
       | some bu=>
         rw [af] at h;simp only [Option.some.injEq] at h;subst h;obtain ⟨g1,g2⟩:=VV aD ba clock ms es bu (i+1) af bt;refine ⟨fun h=>?_,fun h=>?_⟩
         . obtain ⟨bN,a2⟩:=g1 h;exact ⟨by simp only [Instr.findNow,ao,bN],⟨e,es++[⟨K,X,clock⟩],rfl,aa,ad,aH,a2⟩⟩
         . obtain ⟨j,c9,Y,bN,a2,a3,a4⟩:=g2 h;exact ⟨j+1,c9,Y,by simp only [Instr.findNow,ao,bN];congr 3;omega,by simpa using a2,a3,e,_,rfl,aa,ad,aH,a4⟩
theorem LL {ay:Fr} {E:Env} {h:ah} {w:World} (s:bf ay E h w) {x:V} {X:Value} {es:List cE} (he:sJ h x=some es) (ai:Rel E x X):
 (X=.map none/\es=[])\/∃r a clock,X=.map (some r)/\(getObj r).run P w=.ok (.map a clock) w/\ew E es a.toList:=by
 cases x<;>simp only [sJ] at he<;>try (cases he;done)
 . simp only [Rel] at ai;exact .inl ⟨ai,by simpa using he.symm⟩
 . rename_i b;simp only [Rel] at ai;obtain ⟨p,af,rfl⟩:=ai;have ae:=s.at af;cases aF:h.get b<;>rw [aF] at he<;>simp only [b9.jJ] at he<;>try (cases he;done)
   simp only [Option.some.injEq] at he;subst he;rw [aF] at ae;obtain ⟨q,a,aa,_,aH,bt⟩:=ae;rw [af] at aa;cases aa;exact .inr ⟨p.aW,a,_,rfl,by simp only [getObj,Sem.run,aH];rfl,bt⟩
theorem RE {bg:TypeDesc} {K:Value}:∀{l:List MapEntry} {i:Nat},(∀e ∈ l,Instr.sameNow bg K e.key=some false)->Instr.findNow bg K l i=some none
 | [],_,_=>rfl
 | e::es,i,h=>by simp only [Instr.findNow,h e (by simp)];exact RE fun c9 eG=>h c9 (by simp [eG])
theorem RF {bg:TypeDesc} {K:Value}:∀{l:List MapEntry} {i:Nat},(∀e ∈ l,∃b,Instr.sameNow bg K e.key=some b)->(∃e ∈ l,Instr.sameNow bg K e.key=some true)->
 ∃j,∃e ∈ l,Instr.sameNow bg K e.key=some true/\Instr.findNow bg K l i=some (some (j,e.val))
 | [],_,_,h=>by obtain ⟨e,he,_⟩:=h;simp at he
 | e::es,i,aa,ad=>by
   obtain ⟨b,ae⟩:=aa e (by simp);cases b with
   | true=>exact ⟨i,e,by simp,ae,by simp only [Instr.findNow,ae]⟩
   | false=>
     obtain ⟨c9,eG,au⟩:=ad;simp only [List.mem_cons] at eG;rcases eG with rfl | eG
     . rw [ae] at au;cases au
     . obtain ⟨j,aZ,ao,ax,aL⟩:=RF (i:=i+1) (fun x ai=>aa x (by simp [ai])) ⟨c9,eG,au⟩;exact ⟨j,aZ,by simp [ao],ax,by simp only [Instr.findNow,ae,aL]⟩
theorem RG {E:Env} {bg:TypeDesc} {k:V} {K:Value} (aD:Rel E k K):∀(es:List cE) (l:List MapEntry) (r:Option V),sb (k9 bg) k es=some r->nG E es l->
 (∀e ∈ l,∃b,Instr.sameNow bg K e.key=some b)/\(match r with
  | none=>∀e ∈ l,Instr.sameNow bg K e.key=some false
  | some v=>(∃e ∈ l,Instr.sameNow bg K e.key=some true)/\∀e ∈ l,Instr.sameNow bg K e.key=some true->Rel E v e.val)
 | [],l,r,h,aG=>by simp only [nG] at aG;subst aG;simp only [sb,Option.some.injEq] at h;subst h;exact ⟨fun e he=>by simp at he,fun e he=>by simp at he⟩
 | m::ms,l,r,h,aG=>by
   obtain ⟨e,es,rfl,aa,ad,bt⟩:=aG;simp only [sb] at h;cases aB:sb (k9 bg) k ms with
   | none=>rw [aB] at h;cases h
   | some bu=>
     rw [aB] at h;simp only at h;obtain ⟨g1,g2⟩:=RG aD ms es bu aB bt;cases aM:(k9 bg).run k m.k with
     | none=>rw [aM] at h;cases h
     | some b=>
       rw [aM] at h;simp only at h;obtain ⟨ao,_⟩:=Ls aM aD aa;have Kd:∀c9 ∈ e::es,∃b,Instr.sameNow bg K c9.key=some b:=by
        intro c9 eG;rcases List.mem_cons.1 eG with rfl | eG
        . exact ⟨b,ao⟩
        . exact g1 c9 eG
       refine ⟨Kd,?_⟩;cases b with
       | true=>
         simp only [cond_true] at h;cases bu with
         | some _=>cases h
         | none=>
           simp only [Option.some.injEq] at h;subst h;refine ⟨⟨e,by simp,ao⟩,fun c9 eG au=>?_⟩;rcases List.mem_cons.1 eG with rfl | eG
           . exact ad
           . have:=g2 c9 eG;rw [au] at this;cases this
       | false=>
         simp only [cond_false,Option.some.injEq] at h;subst h;cases bu with
         | none=>
           intro c9 eG;rcases List.mem_cons.1 eG with rfl | eG
           . exact ao
           . exact g2 c9 eG
         | some v=>
           obtain ⟨⟨cz,dT,e3⟩,y3⟩:=g2;refine ⟨⟨cz,by simp [dT],e3⟩,fun c9 eG au=>?_⟩;rcases List.mem_cons.1 eG with rfl | eG
           . rw [ao] at au;cases au
           . exact y3 c9 eG au
theorem ac_ {E:Env} {bg:TypeDesc} {k:V} {K:Value} (aD:Rel E k K) {es:List cE} {l a:List MapEntry} {r:Option V} (h:sb (k9 bg) k es=some r) (aG:nG E es l) (af:l.Perm a):
 ∃R,Instr.findNow bg K a 0=some R/\(match r with
  | none=>R=none
  | some v=>∃j Y,R=some (j,Y)/\Rel E v Y):=by
 obtain ⟨aa,ad⟩:=RG aD es l r h aG;have hm:∀e,e ∈ a↔e ∈ l:=fun e=>af.mem_iff.symm;cases r with
 | none=>exact ⟨none,RE fun e he=>ad e ((hm e).1 he),rfl⟩
 | some v=>
   obtain ⟨⟨cz,dT,e3⟩,y3⟩:=ad;obtain ⟨j,e,ao,ax,aL⟩:=RF (i:=0) (fun e he=>aa e ((hm e).1 he)) ⟨cz,(hm cz).2 dT,e3⟩;exact ⟨_,aL,j,e.val,rfl,y3 e ((hm e).1 ao) ax⟩
theorem akb {e:dG} {z:V} {ok:Bool} {h:ah} {x k v:V} (he:o_ e z ok h x k=some v):
 je e z ok h x k=some v\/∃b es r,x=.map b/\h.get b=.jH es/\sb e k es=some r/\v=(match r with
  | some u=>bif ok then .tuple [u,.bool true] else u
  | none=>bif ok then .tuple [z,.bool false] else z):=by
 unfold o_ at he;cases x<;>simp only at he<;>try (exact .inl he)
 rename_i b;cases aF:h.get b<;>rw [aF] at he<;>simp only at he<;>try (exact .inl he)
 rename_i es;cases aB:sb e k es with
 | none=>rw [aB] at he;cases he
 | some r=>
   rw [aB] at he;refine .inr ⟨b,es,r,rfl,aF,aB,?_⟩;cases r<;>simp only [Option.some.injEq] at he<;>exact he.symm
theorem aka {ay:Fr} {E:Env} {h:ah} {w:World} (s:bf ay E h w) {t:TypeId} {ok:Bool} {x k v:V} {X K:Value} (ai:Rel E x X) (aD:Rel E k K) (he:(FZ P t ok).run h x k=some v):
 ∃Z,(Instr.lookup t X K ok).run P w=.ok Z w/\Rel E v Z:=by
 unfold FZ at he;cases au:a' P t with
 | none=>rw [au] at he;cases he
 | some aP=>
   rw [au] at he;simp only at he;have hu:=fB au w;cases bR:aP.bg<;>rw [bR] at he<;>simp only at he<;>try (cases he;done)
   rename_i cw hg;rw [bR] at hu;cases nV:a' P cw with
   | none=>rw [nV] at he;cases he
   | some gC=>
     rw [nV] at he;simp only at he;cases het:a' P hg with
     | none=>rw [het] at he;cases he
     | some a_=>
       rw [het] at he;simp only at he;cases bn:a_.zero with
       | none=>rw [bn] at he;cases he
       | some z=>
         rw [bn] at he;simp only at he;cases aB:kH gC.bg with
         | false=>
           rw [aB] at he;simp only [cond_false] at he;have tR:∃e,Ab P w E cw e K/\je e z ok h x k=some v:=by
            cases oY:jf P cw with
            | true=>
              rw [oY] at he;exact ⟨_,IC s oY K,he⟩
            | false=>
              rw [oY] at he;simp only [cond_false] at he;cases cL:lV P cw with
              | false=>rw [cL] at he;cases he
              | true=>
                rw [cL] at he;simp only [cond_true] at he;obtain ⟨aF,he⟩:=ey he;exact ⟨_,ID cL aF aD,he⟩
           clear he;obtain ⟨e,ask,he⟩:=tR;obtain ⟨uZ,mY,mi,_⟩:=zN (P:=P) het bn E w;simp only [je] at he;cases hm:sJ h x with
           | none=>rw [hm] at he;cases he
           | some es=>
             rw [hm] at he;simp only at he;cases v_:mI e k es with
             | none=>rw [v_] at he;cases he
             | some r=>
               rw [v_] at he;simp only at he;have main:∀(l:List MapEntry),ew E es l->∃R,(Instr.findKey cw K l).run P w=.ok R w/\
                ((R=none/\Rel E v (if ok=true then .tuple #[uZ,.bool false] else uZ))\/∃j Y,R=some (j,Y)/\Rel E v (if ok=true then .tuple #[Y,.bool true] else Y)):=by
                intro l az;obtain ⟨R,g1,g2⟩:=RC ask.eq aD es l r 0 v_ az;refine ⟨R,ask.find g1,?_⟩;cases r with
                | none=>
                  simp only at g2 he;refine .inl ⟨g2,?_⟩;simp only [Option.some.injEq] at he;subst he;cases ok
                  . exact mi
                  . simp only [cond_true,if_true,Rel,bh];exact ⟨_,rfl,_,_,rfl,mi,_,_,rfl,rfl,rfl⟩
                | some u=>
                  simp only at g2 he;obtain ⟨j,Y,cC,eM⟩:=g2;refine .inr ⟨j,Y,cC,?_⟩;simp only [Option.some.injEq] at he;subst he;cases ok
                  . exact eM
                  . simp only [cond_true,if_true,Rel,bh];exact ⟨_,rfl,_,_,rfl,eM,_,_,rfl,rfl,rfl⟩
               rcases LL (P:=P) s hm ai with ⟨rfl,rfl⟩ | ⟨bA,a,clock,rfl,e6,q2⟩
               . obtain ⟨R,g1,g2⟩:=main [] rfl;have ir:=ask.check true;rcases g2 with ⟨rfl,g3⟩ | ⟨j,Y,rfl,g3⟩
                 all_goals
                  refine ⟨_,?_,g3⟩;simp only [Instr.lookup,Sem.run_bind,hu,Result.andThen_ok,Sem.run_pure];have aN:(#[]:Array MapEntry).isEmpty=true:=rfl;rw [aN,ir,Result.andThen_ok,g1,Result.andThen_ok];simp only [Sem.run_bind,mY,Result.andThen_ok,Sem.run_pure]
               . obtain ⟨R,g1,g2⟩:=main a.toList q2;have ir:=ask.check a.isEmpty;rcases g2 with ⟨rfl,g3⟩ | ⟨j,Y,rfl,g3⟩
                 all_goals
                  refine ⟨_,?_,g3⟩;simp only [Instr.lookup,Sem.run_bind,hu,Result.andThen_ok,Sem.run_pure,e6];rw [ir,Result.andThen_ok,g1,Result.andThen_ok];simp only [Sem.run_bind,mY,Result.andThen_ok,Sem.run_pure]
         | true=>
           rw [aB] at he;simp only [cond_true] at he;obtain ⟨uZ,mY,mi,_⟩:=zN (P:=P) het bn E w;have mP:=fB nV w;rcases akb he with he | ⟨b,es,r,rfl,aF,ae2,rfl⟩
           case inr=>
            simp only [Rel] at ai;obtain ⟨p,af,rfl⟩:=ai;have ae:=s.at af;rw [aF] at ae;obtain ⟨p',a,c,l,eZ,_,bk,aga,agb⟩:=ae;rw [af] at eZ;cases eZ;obtain ⟨R,g1,g2⟩:=ac_ aD ae2 aga agb;have e6:(getObj p.aW).run P w=.ok (.map a c) w:=by simp only [getObj,Sem.run,bk]
            have ir:=run_checkKey (P:=P) aB mP a.isEmpty K;have EE:=run_findKey mP g1;cases r with
            | none=>
              simp only at g2;subst g2;refine ⟨if ok=true then .tuple #[uZ,.bool false] else uZ,?_,?_⟩
              . simp only [Instr.lookup,Sem.run_bind,hu,Result.andThen_ok,Sem.run_pure,e6];rw [ir,Result.andThen_ok,EE,Result.andThen_ok];simp only [Sem.run_bind,mY,Result.andThen_ok,Sem.run_pure]
              . cases ok
                . exact mi
                . simp only [cond_true,if_true,Rel,bh];exact ⟨_,rfl,_,_,rfl,mi,_,_,rfl,rfl,rfl⟩
            | some u=>
              simp only at g2;obtain ⟨j,Y,rfl,eM⟩:=g2;refine ⟨if ok=true then .tuple #[Y,.bool true] else Y,?_,?_⟩
              . simp only [Instr.lookup,Sem.run_bind,hu,Result.andThen_ok,Sem.run_pure,e6];rw [ir,Result.andThen_ok,EE,Result.andThen_ok];simp only [Sem.run_bind,Sem.run_pure,Result.andThen_ok]
              . cases ok
                . exact eM
                . simp only [cond_true,if_true,Rel,bh];exact ⟨_,rfl,_,_,rfl,eM,_,_,rfl,rfl,rfl⟩
           simp only [je] at he;cases hm:sJ h x with
           | none=>rw [hm] at he;cases he
           | some es=>
             rw [hm] at he;simp only at he;cases v_:mI (k9 gC.bg) k es with
             | none=>rw [v_] at he;cases he
             | some r=>
               rw [v_] at he;simp only at he;have main:∀(l:List MapEntry),ew E es l->∃R,(Instr.findKey cw K l).run P w=.ok R w/\
                ((R=none/\Rel E v (if ok=true then .tuple #[uZ,.bool false] else uZ))\/∃j Y,R=some (j,Y)/\Rel E v (if ok=true then .tuple #[Y,.bool true] else Y)):=by
                intro l az;obtain ⟨R,g1,g2⟩:=RH aD es l r 0 v_ az;refine ⟨R,run_findKey mP g1,?_⟩;cases r with
                | none=>
                  simp only at g2 he;refine .inl ⟨g2,?_⟩;simp only [Option.some.injEq] at he;subst he;cases ok
                  . exact mi
                  . simp only [cond_true,if_true,Rel,bh];exact ⟨_,rfl,_,_,rfl,mi,_,_,rfl,rfl,rfl⟩
                | some u=>
                  simp only at g2 he;obtain ⟨j,Y,cC,eM⟩:=g2;refine .inr ⟨j,Y,cC,?_⟩;simp only [Option.some.injEq] at he;subst he;cases ok
                  . exact eM
                  . simp only [cond_true,if_true,Rel,bh];exact ⟨_,rfl,_,_,rfl,eM,_,_,rfl,rfl,rfl⟩
               rcases LL (P:=P) s hm ai with ⟨rfl,rfl⟩ | ⟨bA,a,clock,rfl,e6,q2⟩
               . obtain ⟨R,g1,g2⟩:=main [] rfl;have ir:=run_checkKey (P:=P) aB mP true K;rcases g2 with ⟨rfl,g3⟩ | ⟨j,Y,rfl,g3⟩
                 all_goals
                  refine ⟨_,?_,g3⟩;simp only [Instr.lookup,Sem.run_bind,hu,Result.andThen_ok,Sem.run_pure];have aN:(#[]:Array MapEntry).isEmpty=true:=rfl;rw [aN,ir,Result.andThen_ok,g1,Result.andThen_ok];simp only [Sem.run_bind,mY,Result.andThen_ok,Sem.run_pure]
               . obtain ⟨R,g1,g2⟩:=main a.toList q2;have ir:=run_checkKey (P:=P) aB mP a.isEmpty K;rcases g2 with ⟨rfl,g3⟩ | ⟨j,Y,rfl,g3⟩
                 all_goals
                  refine ⟨_,?_,g3⟩;simp only [Instr.lookup,Sem.run_bind,hu,Result.andThen_ok,Sem.run_pure,e6];rw [ir,Result.andThen_ok,g1,Result.andThen_ok];simp only [Sem.run_bind,mY,Result.andThen_ok,Sem.run_pure]
theorem Xv {ay:Fr} {E:Env} {h ab:ah} {w:World} (s:bf ay E h w) {t:TypeId} {x k v:V} {X K Y:Value} (ai:Rel E x X) (aD:Rel E k K) (ba:Rel E v Y) (he:(pt P t).run h x k v=some ab):
 ∃w',(Instr.mapUpdate t X K Y).run P w=.ok () w'/\bf ay E ab w':=by
 unfold pt at he;cases au:a' P t with
 | none=>rw [au] at he;cases he
 | some aP=>
   rw [au] at he;simp only at he;have hu:=fB au w;cases bR:aP.bg<;>rw [bR] at he<;>simp only at he<;>try (cases he;done)
   rename_i cw hg;rw [bR] at hu;cases nV:a' P cw with
   | none=>rw [nV] at he;cases he
   | some gC=>
     rw [nV] at he;simp only at he;cases aB:kH gC.bg with
     | false=>
       rw [aB] at he;simp only [cond_false] at he;have tR:∃e,Ab P w E cw e K/\kt e h x k v=some ab:=by
        cases oY:jf P cw with
        | true=>
          rw [oY] at he;exact ⟨_,IC s oY K,he⟩
        | false=>
          rw [oY] at he;simp only [cond_false] at he;cases cL:lV P cw with
          | false=>rw [cL] at he;cases he
          | true=>
            rw [cL] at he;simp only [cond_true] at he;obtain ⟨aF,he⟩:=ey he;exact ⟨_,ID cL aF aD,he⟩
       clear he;obtain ⟨e,ask,he⟩:=tR;cases x<;>simp only [kt] at he<;>try (cases he;done)
       rename_i b;simp only [Rel] at ai;obtain ⟨p,af,rfl⟩:=ai;have ae:=s.at af;cases aF:h.get b<;>rw [aF] at he<;>simp only [b9.jJ] at he<;>try (cases he;done)
       rename_i es clock;rw [aF] at ae;obtain ⟨q,a,aa,dc,aH,bt⟩:=ae;rw [af] at aa;cases aa;cases wq:kM e k v clock es with
       | none=>rw [wq] at he;cases he
       | some r=>
         rw [wq] at he;simp only [Option.some.injEq] at he;subst he;have e6:(getObj p.aW).run P w=.ok (.map a clock) w:=by simp only [getObj,Sem.run,aH]
         have ir:=ask.check false;have lD:=(Array.getElem?_eq_some_iff.1 aH).1;have AZ:∀(bs:Array MapEntry) (gN:Nat),ew E r.1 bs.toList->gN=(bif r.2 then clock+1 else clock)->
          ∃w',(setObj p.aW (.map bs gN)).run P w=.ok () w'/\bf ay E (h.set b (.mp r.1 (bif r.2 then clock+1 else clock))) w':=by
          intro bs gN hm aC;refine ⟨{w with heap:=w.heap.setIfInBounds p.aW (.map bs gN)},by simp only [setObj,Sem.run,aH],s.set (p:=p) (by rw [aF];rfl) af dc (by simp) (fun j a6=>?_) rfl rfl rfl (fun _ _ _ e=>by cases e) ?_⟩
          . simp only [Array.getElem?_setIfInBounds];rw [if_neg (fun e=>a6 e.symm)]
          . exact ⟨p,bs,af,dc,by simp [lD,aC],hm⟩
         obtain ⟨g1,g2⟩:=VN ask.eq aD ba clock es a.toList r 0 wq bt;cases lF:r.2 with
         | true=>
           obtain ⟨bN,a2⟩:=g1 lF;obtain ⟨w',d1,d2⟩:=AZ (a.push ⟨K,Y,clock⟩) (clock+1) (by simpa using a2) (by rw [lF];rfl);rw [lF] at d2;refine ⟨w',?_,d2⟩;simp only [Instr.mapUpdate,Sem.run_bind,hu,Result.andThen_ok,e6,ir,ask.find bN,d1]
         | false=>
           obtain ⟨j,dM,Zf,bN,a2,a3,a4⟩:=g2 lF;obtain ⟨w',d1,d2⟩:=AZ (a.modify j fun dM=>{dM with key:=K,val:=Y}) clock (by simpa using a4) (by rw [lF];rfl);rw [lF] at d2;refine ⟨w',?_,d2⟩;rw [Nat.zero_add] at bN;have aN:a[j]? =some dM:=by simpa using a2
           simp only [Instr.mapUpdate,Sem.run_bind,hu,Result.andThen_ok,e6,ir,ask.find bN,aN,Option.map,Option.getD,Instr.keyThatStays,a3,if_true,Sem.run_pure,d1]
     | true=>
       rw [aB] at he;simp only [cond_true] at he;have mP:=fB nV w;cases x<;>simp only [kt] at he<;>try (cases he;done)
       rename_i b;simp only [Rel] at ai;obtain ⟨p,af,rfl⟩:=ai;have ae:=s.at af;cases aF:h.get b<;>rw [aF] at he<;>simp only [b9.jJ] at he<;>try (cases he;done)
       rename_i es clock;rw [aF] at ae;obtain ⟨q,a,aa,dc,aH,bt⟩:=ae;rw [af] at aa;cases aa;cases wq:kM (k9 gC.bg) k v clock es with
       | none=>rw [wq] at he;cases he
       | some r=>
         rw [wq] at he;simp only [Option.some.injEq] at he;subst he;have e6:(getObj p.aW).run P w=.ok (.map a clock) w:=by simp only [getObj,Sem.run,aH]
         have ir:=run_checkKey (P:=P) aB mP false K;have lD:=(Array.getElem?_eq_some_iff.1 aH).1;have done:∀(bs:Array MapEntry) (gN:Nat),ew E r.1 bs.toList->gN=(bif r.2 then clock+1 else clock)->
          ∃w',(setObj p.aW (.map bs gN)).run P w=.ok () w'/\bf ay E (h.set b (.mp r.1 (bif r.2 then clock+1 else clock))) w':=by
          intro bs gN hm aC;refine ⟨{w with heap:=w.heap.setIfInBounds p.aW (.map bs gN)},by simp only [setObj,Sem.run,aH],s.set (p:=p) (by rw [aF];rfl) af dc (by simp) (fun j a6=>?_) rfl rfl rfl (fun _ _ _ e=>by cases e) ?_⟩
          . simp only [Array.getElem?_setIfInBounds];rw [if_neg (fun e=>a6 e.symm)]
          . exact ⟨p,bs,af,dc,by simp [lD,aC],hm⟩
         obtain ⟨g1,g2⟩:=VV aD ba clock es a.toList r 0 wq bt;cases lF:r.2 with
         | true=>
           obtain ⟨bN,a2⟩:=g1 lF;obtain ⟨w',d1,d2⟩:=done (a.push ⟨K,Y,clock⟩) (clock+1) (by simpa using a2) (by rw [lF];rfl);rw [lF] at d2;refine ⟨w',?_,d2⟩;simp only [Instr.mapUpdate,Sem.run_bind,hu,Result.andThen_ok,e6,ir,run_findKey mP bN,d1]
         | false=>
           obtain ⟨j,e,Zf,bN,a2,a3,a4⟩:=g2 lF;obtain ⟨w',d1,d2⟩:=done (a.modify j fun e=>{e with key:=K,val:=Y}) clock (by simpa using a4) (by rw [lF];rfl);rw [lF] at d2;refine ⟨w',?_,d2⟩;rw [Nat.zero_add] at bN;have aN:a[j]? =some e:=by simpa using a2
           simp only [Instr.mapUpdate,Sem.run_bind,hu,Result.andThen_ok,e6,ir,run_findKey mP bN,aN,Option.map,Option.getD,Instr.keyThatStays,a3,if_true,Sem.run_pure,d1]
theorem UK {ay:Fr} {E:Env} {h ab:ah} {w:World} (s:bf ay E h w) {v:V} (he:zq h=.val v ab):c8 ay P E w (do pure (.map (some (<-newObj (.map #[] 0))))) v ab:=by
 unfold zq at he;simp only [a7.val.injEq] at he;obtain ⟨rfl,rfl⟩:=he;have de:=s.fresh h.next (Nat.le_refl _)
 have dN:E.put (aj h.next) ⟨w.heap.size,0,0⟩ (aj h.next)=some ⟨w.heap.size,0,0⟩:=by unfold Env.put;rw [if_pos rfl]
 refine ⟨.map (some w.heap.size),{w with heap:=w.heap.push (.map #[] 0)},_,?_,Env.lP (p:=⟨w.heap.size,0,0⟩) de,?_,s.alloc 0 ?_⟩
 . simp only [Sem.run_bind,run_newObj,Result.andThen_ok,Sem.run_pure]
 . simp only [Rel];exact ⟨_,dN,rfl⟩
 . exact ⟨_,#[],dN,s.frame.size,by simp,rfl⟩
theorem akh {ay:Fr} {E:Env} {h ab:ah} {w:World} (s:bf ay E h w) {t:TypeId} {x:Option V} {X:Option Value} {v:V} (ai:hW E x X) (he:zo P t x h=.val v ab):c8 ay P E w (Instr.makeMap t X) v ab:=by
 unfold zo at he;cases au:a' P t with
 | none=>rw [au] at he;cases he
 | some aP=>
   rw [au] at he;simp only at he;have hu:=fB au;cases ae:Nat.beq (e9 aP.bg) 3 with
   | false=>rw [ae] at he;cases he
   | true=>
     rw [ae] at he;simp only [cond_true] at he;cases x with
     | none=>
       have:X=none:=by cases X with | none=>rfl | some _=>simp [hW] at ai
       subst this;simp only [p9] at he;have:=UK (P:=P) s he;exact this
     | some u=>
       simp only [p9] at he;obtain ⟨c',n,rfl,aa⟩:=sO he;obtain ⟨Y,rfl,eM⟩:∃Y,X=some Y/\Rel E (.int c' n) Y:=by
        cases X with
        | none=>simp [hW] at ai
        | some Y=>simp only [hW] at ai;obtain ⟨apq,aa,ad⟩:=ai;cases aa;exact ⟨_,rfl,ad⟩
       have:=eM.iQ;subst this;obtain ⟨Z,w',aw,ao,ax⟩:=UK (P:=P) s aa;refine ⟨Z,w',aw,?_,ax⟩;cases bR:aP.bg<;>rw [bR] at ae<;>simp [e9] at ae;have hu:=hu w;rw [bR] at hu;simp only [Instr.makeMap,Sem.run_bind,hu,Result.andThen_ok,asInt,Sem.run_pure];exact ao
theorem ajO {ay:Fr} {E:Env} {h ab:ah} {w:World} (s:bf ay E h w) {t:TypeId} {aP:nF} (au:a' P t=some aP) (hm:ui aP.bg=true) {x v:V} {X:Value} (ai:Rel E x X) (ty:TypeId) (rest:List TypeId)
 (he:B1 [x] h=.val v ab):c8 ay P E w (Builtin.len_ (t::rest).toArray ty #[X]) v ab:=by
 simp only [B1] at he;cases aM:sJ h x with
 | none=>rw [aM] at he;cases he
 | some es=>
   rw [aM] at he;simp only [a7.val.injEq] at he;obtain ⟨rfl,rfl⟩:=he;have hu:=fB au w;cases bR:aP.bg<;>rw [bR] at hm<;>simp [ui] at hm;rw [bR] at hu;rcases LL (P:=P) s aM ai with ⟨rfl,rfl⟩ | ⟨bA,a,clock,rfl,e6,q2⟩
   . refine c8.plain (Z:=goInt 0) s ?_ (by simp [Rel,goInt]);simp [Builtin.len_,hu]
   . have hlen:∀(ms:List cE) (l:List MapEntry),ew E ms l->l.length=ms.length:=by
      intro ms
      induction ms with
      | nil=>intro l h;simp only [ew] at h;subst h;rfl
      | cons m ms bd=>intro l h;obtain ⟨e,es,rfl,_,_,_,bt⟩:=h;simp [bd _ bt]
     refine c8.plain (Z:=goInt a.size) s ?_ ?_
     . simp [Builtin.len_,hu,e6]
     . have:=hlen _ _ q2;simp only [Array.length_toList] at this;simp [Rel,goInt,this]
end
section
variable {P:Program}
theorem RA {E:Env} {v:V} {Y:Value} (ba:Rel E v Y) {n:Nat}:∀(es:List cE) (l:List MapEntry) (r:List cE),sa n v es=some r->ew E es l->
 ∃j,l.findIdx? (fun e=>(e.born:Int) == (n:Int))=some j/\ew E r (l.modify j fun e=>{e with val:=Y})
 | [],l,r,h,aG=>by cases h
 | m::ms,l,r,h,aG=>by
   obtain ⟨e,es,rfl,aa,ad,aH,bt⟩:=aG;simp only [sa] at h;cases ae:Nat.beq m.born n with
   | true=>
     rw [ae] at h;simp only [cond_true,Option.some.injEq] at h;subst h;have aQ:=Nat.eq_of_beq_eq_true ae;refine ⟨0,by simp [List.findIdx?_cons,aH,aQ],?_⟩;exact ⟨_,es,rfl,aa,ba,aH,bt⟩
   | false=>
     rw [ae] at h;simp only [cond_false] at h;cases aB:sa n v ms with
     | none=>rw [aB] at h;cases h
     | some bu=>
       rw [aB] at h;simp only [Option.some.injEq] at h;subst h;obtain ⟨j,g1,g2⟩:=RA ba ms es bu aB bt;have cR:¬((e.born:Int) == (n:Int))=true:=by
        rw [aH];intro aA;have yU:(m.born:Int)=(n:Int):=by simpa using aA
        have afP:m.born=n:=by omega
        rw [afP,Nat.beq_refl] at ae;cases ae
       refine ⟨j+1,by simp only [List.findIdx?_cons,cR];simp [g1],⟨e,_,by simp [List.modify],aa,ad,aH,g2⟩⟩
theorem acH {ay:Fr} {E:Env} {h ab:ah} {w:World} (s:bf ay E h w) {t:TypeId} {x st v:V} {X S Y:Value} (ai:Rel E x X) (cL:Rel E st S) (ba:Rel E v Y) (he:tG h x st v=some ab):
 ∃w',(Instr.entryStore t X S Y).run P w=.ok () w'/\bf ay E ab w':=by
 unfold tG at he
 split at he
 case h_2=>cases he
 rename_i b
 split at he
 case h_2=>cases he
 rename_i c' m
 split at he
 case h_2=>cases he
 rename_i n;simp only [Rel] at ai cL;obtain ⟨p,af,rfl⟩:=ai;subst cL;have ae:=s.at af;cases aF:h.get b<;>rw [aF] at he<;>simp only [b9.jJ] at he<;>try (cases he;done)
 rename_i es clock;rw [aF] at ae;obtain ⟨q,a,aa,dc,aH,bt⟩:=ae;rw [af] at aa;cases aa;cases aB:sa n v es with
 | none=>rw [aB] at he;cases he
 | some r=>
   rw [aB] at he;simp only [Option.some.injEq] at he;subst he;obtain ⟨j,g1,g2⟩:=RA ba es a.toList r aB bt;have e6:(getObj p.aW).run P w=.ok (.map a clock) w:=by simp only [getObj,Sem.run,aH]
   have lD:=(Array.getElem?_eq_some_iff.1 aH).1;have EE:a.findIdx? (fun e=>(e.born:Int) == (n:Int))=some j:=by rw [<-g1];cases a with | mk uk=>simp
   have aV:(asInt (.int c' (Int.ofNat n))).run P w=.ok (n:Int) w:=by simp [asInt,asIntOf]
   refine ⟨{w with heap:=w.heap.setIfInBounds p.aW (.map (a.modify j fun e=>{e with val:=Y}) clock)},?_,s.set (p:=p) (by rw [aF];rfl) af dc (by simp) (fun j a6=>?_) rfl rfl rfl (fun _ _ _ e=>by cases e) ?_⟩
   . simp only [Instr.entryStore,Sem.run_bind,e6,Result.andThen_ok,aV,EE,setObj,Sem.run,aH]
   . simp only [Array.getElem?_setIfInBounds];rw [if_neg (fun e=>a6 e.symm)]
   . exact ⟨p,a.modify j fun e=>{e with val:=Y},af,dc,by simp [lD],by rw [Array.toList_modify];exact g2⟩
theorem RD {w:World} {E:Env} {cw:TypeId} {e:dG} (eB:xQ P w E cw e) {k:V} {K:Value} (aD:Rel E k K):∀(es:List cE) (l:List MapEntry) (r:Option cE) (i:Nat),qT e k es=some r->ew E es l->
 (r=none->(Instr.findAsking cw K l i).run P w=.ok none w)/\
 (∀m,r=some m->∃j dM,(Instr.findAsking cw K l i).run P w=.ok (some (i+j,dM.val)) w/\l[j]? =some dM/\dM.key=K/\Rel E m.v dM.val/\dM.born=m.born/\Instr.sameBits 10000 K K=true/\ew E es (l.modify j fun dM=>{dM with key:=K}))
 | [],l,r,i,h,aG=>by simp only [ew] at aG;subst aG;simp only [qT,Option.some.injEq] at h;subst h;exact ⟨fun _=>rfl,fun m hm=>by cases hm⟩
 | m::ms,l,r,i,h,aG=>by
   obtain ⟨dM,es,rfl,aa,ad,aH,bt⟩:=aG;simp only [qT] at h;cases aM:e.run k m.k with
   | none=>rw [aM] at h;cases h
   | some b=>
     rw [aM] at h;simp only at h;obtain ⟨ao,ax⟩:=eB _ _ _ _ _ aM aD aa;cases b with
     | true=>
       simp only [cond_true,Option.some.injEq] at h;subst h;obtain ⟨aL,bY⟩:=ax rfl;refine ⟨fun h=>(by cases h),fun cj hm=>?_⟩;cases hm;exact ⟨0,dM,by simp [Instr.findAsking,ao],rfl,aL,ad,aH,bY,⟨_,es,rfl,by rw [<-aL];exact aa,ad,aH,bt⟩⟩
     | false=>
       simp only [cond_false] at h;obtain ⟨g1,g2⟩:=RD eB aD ms es r (i+1) h bt;refine ⟨fun h=>by simp [Instr.findAsking,ao,g1 h],fun cj hm=>?_⟩;obtain ⟨j,acG,bN,a2,a3,a4,a5,hN,DB⟩:=g2 cj hm;exact ⟨j+1,acG,by simp [Instr.findAsking,ao,bN];omega,by simpa using a2,a3,a4,a5,hN,⟨dM,_,rfl,aa,ad,aH,DB⟩⟩
theorem Us {ay:Fr} {E:Env} {h ab:ah} {w:World} (s:bf ay E h w) {t cw hg:TypeId} (hu:(underlying t).run P w=.ok (.map cw hg) w) {e:dG} {z:V} {Z:Value} (bn:(zeroValue hg).run P w=.ok Z w) (mi:Rel E z Z)
 {x k v:V} {X K:Value} (ai:Rel E x X) (aD:Rel E k K) (ask:Ab P w E cw e K) (he:wP e z h x k=some (v,ab)):c8 ay P E w (Instr.mapEntry t X K) v ab:=by
 unfold wP at he
 split at he
 case h_2=>cases he
 rename_i b;simp only [Rel] at ai;obtain ⟨p,af,rfl⟩:=ai;have ae:=s.at af;cases aF:h.get b<;>rw [aF] at he<;>simp only [b9.jJ] at he<;>try (cases he;done)
 rename_i es clock;rw [aF] at ae;obtain ⟨q,a,aa,dc,aH,bt⟩:=ae;rw [af] at aa;cases aa;have e6:(getObj p.aW).run P w=.ok (.map a clock) w:=by simp only [getObj,Sem.run,aH]
 have ir:=ask.check false;have lD:=(Array.getElem?_eq_some_iff.1 aH).1;have AZ:∀(gf:List cE) (bs:Array MapEntry) (gN:Nat),ew E gf bs.toList->
  ∃w',(setObj p.aW (.map bs gN)).run P w=.ok () w'/\bf ay E (h.set b (.mp gf gN)) w':=by
  intro gf bs gN hm;refine ⟨{w with heap:=w.heap.setIfInBounds p.aW (.map bs gN)},by simp only [setObj,Sem.run,aH],s.set (p:=p) (by rw [aF];rfl) af dc (by simp) (fun j a6=>?_) rfl rfl rfl (fun _ _ _ e=>by cases e) ?_⟩
  . simp only [Array.getElem?_setIfInBounds];rw [if_neg (fun e=>a6 e.symm)]
  . exact ⟨p,bs,af,dc,by simp [lD],hm⟩
 cases aB:qT e k es with
 | none=>rw [aB] at he;cases he
 | some r=>
   rw [aB] at he;simp only at he;obtain ⟨g1,g2⟩:=RD ask.eq aD es a.toList r 0 aB bt;cases r with
   | none=>
     simp only [Option.some.injEq,Prod.mk.injEq] at he;obtain ⟨rfl,rfl⟩:=he;have bN:=ask.find (g1 rfl);obtain ⟨w',d1,d2⟩:=AZ (es++[⟨k,z,clock⟩]) (a.push ⟨K,Z,clock⟩) (clock+1) (by
      have:∀(es:List cE) (l:List MapEntry),ew E es l->ew E (es++[⟨k,z,clock⟩]) (l++[⟨K,Z,clock⟩]):=by
       intro es
       induction es with
       | nil=>intro l az;simp only [ew] at az;subst az;exact ⟨_,_,rfl,aD,mi,rfl,rfl⟩
       | cons m ms bd=>intro l az;obtain ⟨dM,gf,rfl,cn,ch,gk,l8⟩:=az;exact ⟨dM,_,rfl,cn,ch,gk,bd _ l8⟩
      simpa using this es a.toList bt)
     refine ⟨.tuple #[Z,goInt clock],w',E,?_,Env.le.refl E,?_,d2⟩
     . simp only [Instr.mapEntry,Sem.run_bind,hu,Result.andThen_ok,e6,ir,bN,bn,d1,Sem.run_pure]
     . simp only [Rel,bh];exact ⟨_,rfl,_,_,rfl,mi,_,_,rfl,rfl,rfl⟩
   | some m=>
     simp only [Option.some.injEq,Prod.mk.injEq] at he;obtain ⟨rfl,rfl⟩:=he;obtain ⟨j,dM,bN,a2,a3,a4,a5,hN,DB⟩:=g2 m rfl;rw [Nat.zero_add] at bN;have cn:=ask.find bN;have aN:a[j]? =some dM:=by simpa using a2
     obtain ⟨w',d1,d2⟩:=AZ es (a.modify j fun dM=>{dM with key:=K}) clock (by rw [Array.toList_modify];exact DB);refine ⟨.tuple #[dM.val,goInt dM.born],w',E,?_,Env.le.refl E,?_,d2⟩
     . simp only [Instr.mapEntry,Sem.run_bind,hu,Result.andThen_ok,e6,ir,cn,aN,Option.map,Option.getD,a3,Instr.keyThatStays,hN,if_true,Sem.run_pure,d1]
     . simp only [Rel,bh];exact ⟨_,rfl,_,_,rfl,a4,_,_,rfl,by rw [a5];rfl,rfl⟩
theorem akk {ay:Fr} {E:Env} {h ab:ah} {w:World} (s:bf ay E h w) {t:TypeId} {x k v:V} {X K:Value} (ai:Rel E x X) (aD:Rel E k K) (he:(F0 P t).run x k h=.val v ab):c8 ay P E w (Instr.mapEntry t X K) v ab:=by
 unfold F0 at he;cases au:a' P t with
 | none=>rw [au] at he;cases he
 | some aP=>
   rw [au] at he;simp only at he;have hu:=fB au w;cases bR:aP.bg<;>rw [bR] at he<;>simp only at he<;>try (cases he;done)
   rename_i cw hg;rw [bR] at hu;cases het:a' P hg with
   | none=>rw [het] at he;cases he
   | some a_=>
     rw [het] at he;simp only at he;cases bn:a_.zero with
     | none=>rw [bn] at he;cases he
     | some z=>
       rw [bn] at he;simp only at he;obtain ⟨uZ,mY,mi,_⟩:=zN (P:=P) het bn E w;cases oY:jf P cw with
       | true=>
         rw [oY] at he;simp only [cond_true,ye] at he;cases hm:wP ⟨g' h⟩ z h x k with
         | none=>rw [hm] at he;cases he
         | some r=>
           rw [hm] at he;simp only [a7.val.injEq] at he;obtain ⟨rfl,rfl⟩:=he;exact Us s hu mY mi ai aD (IC s oY K) hm
       | false=>
         rw [oY] at he;simp only [cond_false] at he;cases cL:lV P cw with
         | false=>rw [cL] at he;cases he
         | true=>
           rw [cL] at he;simp only [cond_true,Ek] at he;cases aF:m' P cw k with
           | false=>rw [aF] at he;cases he
           | true=>
             rw [aF] at he;simp only [cond_true] at he;cases hm:wP (structEq P cw) z h x k with
             | none=>rw [hm] at he;cases he
             | some r=>
               rw [hm] at he;simp only [a7.val.injEq] at he;obtain ⟨rfl,rfl⟩:=he;exact Us s hu mY mi ai aD (ID cL aF aD) hm
end
section
variable {P:Program}
theorem Sg (n:Nat):∀(l:List Nat),tQ l n=true↔n ∈ l
 | []=>by simp [tQ]
 | x::xs=>by
   simp only [tQ];cases ae:Nat.beq x n with
   | true=>have:=Nat.eq_of_beq_eq_true ae;subst this;simp
   | false=>
     have cR:x≠n:=fun e=>by subst e;rw [Nat.beq_refl] at ae;cases ae
     simp [Sg n xs,Ne.symm cR]
theorem aet {a:Array Nat} {seen:List Nat} (h:a.toList=seen.reverse) (n:Nat):a.contains n=tQ seen n:=by rw [Bool.eq_iff_iff,Sg,Array.contains_iff_mem,<-Array.mem_toList_iff,h,List.mem_reverse]
theorem T8 {E:Env} {a:Array Nat} {seen:List Nat} (h:a.toList=seen.reverse):∀(ms:List cE) (l:List MapEntry),ew E ms l->ew E (leftOf seen ms) (l.filter fun e=>!a.contains e.born)
 | [],l,aG=>by simp only [ew] at aG;subst aG;rfl
 | m::ms,l,aG=>by
   obtain ⟨e,es,rfl,aa,ad,aH,bt⟩:=aG;have bd:=T8 h ms es bt;have aA:a.contains e.born=tQ seen m.born:=by rw [aet h,aH]
   cases ae:tQ seen m.born with
   | true=>
     rw [ae] at aA;rw [List.filter_cons_of_neg (by rw [aA];decide)];simp only [leftOf,ae,cond_true];exact bd
   | false=>
     rw [ae] at aA;rw [List.filter_cons_of_pos (by rw [aA];decide)];simp only [leftOf,ae,cond_false];exact ⟨e,_,rfl,aa,ad,aH,bd⟩
theorem O5 {E:Env} {last:Nat}:∀(ms:List cE) (l:List MapEntry),ew E ms l->l.all (fun e=>decide (e.born>=last))=xZ last ms
 | [],l,aG=>by simp only [ew] at aG;subst aG;rfl
 | m::ms,l,aG=>by
   obtain ⟨e,es,rfl,aa,ad,aH,bt⟩:=aG;simp only [xZ,List.all_cons,O5 ms es bt,aH];cases ae:Nat.ble last m.born with
   | true=>rw [Nat.ble_eq] at ae;simp [ae]
   | false=>
     have:¬last<=m.born:=by rw [<-Nat.ble_eq,ae];simp
     simp [this]
theorem Ps {E:Env} {n:Nat}:∀(ms:List cE) (l:List MapEntry) (m:cE),ew E ms l->AN n ms=some m->∃e,l.find? (fun e=>e.born == n)=some e/\Rel E m.k e.key/\Rel E m.v e.val
 | [],l,m,aG,h=>by cases h
 | x::xs,l,m,aG,h=>by
   obtain ⟨e,es,rfl,aa,ad,aH,bt⟩:=aG;simp only [AN] at h;cases ae:Nat.beq x.born n with
   | true=>
     rw [ae] at h;simp only [cond_true,Option.some.injEq] at h;subst h;have:=Nat.eq_of_beq_eq_true ae;exact ⟨e,by simp [List.find?_cons,aH,this],aa,ad⟩
   | false=>
     rw [ae] at h;simp only [cond_false] at h;obtain ⟨c9,g1,g2⟩:=Ps xs es m bt h;have cR:x.born≠n:=fun e=>by rw [e,Nat.beq_refl] at ae;cases ae
     exact ⟨c9,by simp [List.find?_cons,aH,cR,g1],g2⟩
theorem L' {k:b9} {f:List cE->Nat->a7} {v:V} {ab:ah} (h:k.jJ .fail f=.val v ab):∃es clock,k=.mp es clock/\f es clock=.val v ab:=by
 cases k<;>simp only [b9.jJ] at h<;>first
  | (cases h;done)
  | exact ⟨_,_,rfl,h⟩
theorem U6 {v:V} {f:aO->Nat->a7} {r:V} {ab:ah} (h:v.jK .fail f=.val r ab):∃b off,v=.ptr b off/\f b off=.val r ab:=by
 cases v<;>simp only [V.jK] at h<;>first
  | (cases h;done)
  | exact ⟨_,_,rfl,h⟩
theorem ami {ay:Fr} {E:Env} {h ab:ah} {w:World} (s:bf ay E h w) {t cw hg:TypeId} (hu:(underlying t).run P w=.ok (.map cw hg) w) {x v:V} {X:Value} (ai:Rel E x X) (he:rangeMap x h=.val v ab):c8 ay P E w (Instr.range t X) v ab:=by
 have de:=s.fresh h.next (Nat.le_refl _)
 have dN:E.put (aj h.next) ⟨w.heap.size,0,0⟩ (aj h.next)=some ⟨w.heap.size,0,0⟩:=by unfold Env.put;rw [if_pos rfl]
 unfold rangeMap at he
 split at he
 . simp only [a7.val.injEq] at he;obtain ⟨rfl,rfl⟩:=he;simp only [Rel] at ai;subst ai;refine ⟨.pointer (some ⟨w.heap.size,0,none⟩),{w with heap:=w.heap.push (.mapIter none 0 #[] 0)},_,?_,Env.lP (p:=⟨w.heap.size,0,0⟩) de,?_,s.alloc 0 ?_⟩
   . simp only [Instr.range,Sem.run_bind,hu,Result.andThen_ok,Sem.run_pure,run_newObj]
   . simp only [Rel];exact ⟨_,dN,by simp⟩
   . exact ⟨_,none,#[],dN,s.frame.size,rfl,by simp,rfl,rfl⟩
 . rename_i c;obtain ⟨es,clock,aF,he⟩:=L' he;simp only [a7.val.injEq] at he;obtain ⟨rfl,rfl⟩:=he;simp only [Rel] at ai;obtain ⟨p,af,rfl⟩:=ai;have ae:=s.at af;rw [aF] at ae;obtain ⟨q,a,aa,dc,aH,bt⟩:=ae;rw [af] at aa;cases aa;have e6:(getObj p.aW).run P w=.ok (.map a clock) w:=by simp only [getObj,Sem.run,aH]
   have hle:E.le (E.put (aj h.next) ⟨w.heap.size,0,0⟩):=Env.lP de;refine ⟨.pointer (some ⟨w.heap.size,0,none⟩),{w with heap:=w.heap.push (.mapIter (some p.aW) clock #[] clock)},_,?_,hle,?_,s.alloc 0 ?_⟩
   . simp only [Instr.range,Sem.run_bind,hu,Result.andThen_ok,Sem.run_pure,e6,run_newObj]
   . simp only [Rel];exact ⟨_,dN,by simp⟩
   . exact ⟨_,some p.aW,#[],dN,s.frame.size,rfl,by simp,rfl,p,hle _ _ af,rfl⟩
 . cases he
theorem akI {ay:Fr} {E:Env} {h ab:ah} {w:World} (s:bf ay E h w) {x v:V} {X:Value} {ty:TypeId} (ai:Rel E x X) (he:gU x h=.val v ab):c8 ay P E w (Instr.next X false ty) v ab:=by
 unfold gU at he;obtain ⟨b,off,rfl,aa⟩:=U6 he;clear he;have ae:=s.at (p:=_) (by simp only [Rel] at ai;exact ai.choose_spec.1);cases aF:h.get b<;>rw [aF] at aa<;>simp only at aa<;>try (cases aa;done)
 rename_i src since seen last;rw [aF] at ae;cases a8:Nat.beq off 0 with
 | false=>rw [a8] at aa;cases aa
 | true=>
 rw [a8] at aa;simp only [cond_true] at aa;have a8:=Nat.eq_of_beq_eq_true a8;subst a8;obtain ⟨p,m,a,af,dc,nS,bk,aV,j2⟩:=ae;simp only [Rel] at ai;obtain ⟨q,aA,rfl⟩:=ai;rw [af] at aA;cases aA;have e6:(getObj p.aW).run P w=.ok (.mapIter m since a last) w:=by simp only [getObj,Sem.run,bk]
 have over:Rel E (.tuple [.bool false]) (.tuple #[.bool false]):=by simp only [Rel,bh];exact ⟨_,rfl,_,_,rfl,rfl,rfl⟩
 cases src with
 | none=>
   simp only [vj] at j2;subst j2;simp only [a7.val.injEq] at aa;obtain ⟨rfl,rfl⟩:=aa;refine c8.plain (Z:=.tuple #[.bool false]) s ?_ over;simp only [Instr.next,nS,Sem.run_bind,e6,Result.andThen_ok,Sem.run_pure]
 | some c=>
   simp only [vj] at j2;obtain ⟨zB,k5,rfl⟩:=j2;simp only at aa;obtain ⟨es,clock,Ks,aa⟩:=L' aa;have tS:=s.at k5;rw [Ks] at tS;obtain ⟨q,nd,g1,_,g3,g4⟩:=tS;rw [k5] at g1;cases g1;have EY:(getObj zB.aW).run P w=.ok (.map nd clock) w:=by simp only [getObj,Sem.run,g3]
   cases aC:(!seen.isEmpty&&(!es.isEmpty&&xZ last es)) with
   | true=>rw [aC] at aa;cases aa
   | false=>
     rw [aC] at aa;simp only [cond_false] at aa;have aN:a.isEmpty=seen.isEmpty:=by
      have:a.toList.isEmpty=seen.reverse.isEmpty:=by rw [aV]
      simpa using this
     have aZ:nd.isEmpty=es.isEmpty:=by
      cases es with
      | nil=>simp only [ew] at g4;have:nd=#[]:=Array.toList_inj.1 g4
             simp [this]
      | cons y cT=>obtain ⟨e,l,az,_⟩:=g4;have:nd.toList.isEmpty=false:=by rw [az];rfl
                   simpa using this
     have bJ:nd.all (fun e=>decide (e.born>=last))=xZ last es:=by rw [<-O5 es _ g4,Array.all_toList]
     have Sl:(!a.isEmpty&&!nd.isEmpty&&nd.all (fun e=>decide (e.born>=last)))=false:=by rw [aN,aZ,bJ,Bool.and_assoc];exact aC
     have Bo:=T8 (E:=E) aV es _ g4;have Ss:(nd.filter fun e=>!a.contains e.born).toList=nd.toList.filter fun e=>!a.contains e.born:=by simp
     cases az:leftOf seen es with
     | nil=>
       rw [az] at aa Bo;simp only [LZ,a7.val.injEq] at aa;obtain ⟨rfl,rfl⟩:=aa;simp only [ew] at Bo;have iN:(nd.filter fun e=>!a.contains e.born)=#[]:=by apply Array.toList_inj.1;rw [Ss,Bo]
       refine c8.plain (Z:=.tuple #[.bool false]) s ?_ over;simp only [Instr.next,nS,Sem.run_bind,e6,Result.andThen_ok,EY,Sl,Bool.false_eq_true,if_false,iN,Sem.run_pure];simp [choose,Sem.run,Question.forced]
     | cons y cT=>
       rw [az] at aa Bo;cases cT with
       | cons _ _=>cases aa
       | nil=>
         simp only [LZ] at aa;cases aT:Nat.blt y.born since with
         | false=>rw [aT] at aa;cases aa
         | true=>
           rw [aT] at aa;simp only [cond_true,a7.val.injEq] at aa;obtain ⟨rfl,rfl⟩:=aa;rw [Nat.blt_eq] at aT;obtain ⟨e,r,aG,bK,bT,en,gg⟩:=Bo;simp only [ew] at gg;subst gg;have iN:(nd.filter fun e=>!a.contains e.born)=#[e]:=by apply Array.toList_inj.1;rw [Ss,aG]
           rw [<-en] at aT ⊢
           let cb:Obj:=.mapIter (some zB.aW) since (a.push e.born) clock
           let w':World:={w with heap:=w.heap.setIfInBounds p.aW cb}
           have lD:=(Array.getElem?_eq_some_iff.1 bk).1;have ss:(setObj p.aW cb).run P w=.ok () w':=by simp only [setObj,Sem.run,bk];rfl
           have tY:¬since<=e.born:=by omega
           refine ⟨.tuple #[.bool true,e.key,e.val],w',E,?_,Env.le.refl E,?_,s.set (p:=p) (by rw [aF];rfl) af dc (by simp [w']) (fun j a6=>?_) rfl rfl rfl (fun _ _ _ e=>by cases e) ?_⟩
           . simp only [Instr.next,nS,Sem.run_bind,e6,Result.andThen_ok,EY,Sl,Bool.false_eq_true,if_false,iN,Sem.run_pure];have aa:(#[e]:Array MapEntry).filter (fun x=>decide (x.born<since))=#[e]:=by simp [aT]
             have ad:(#[e]:Array MapEntry).filter (fun x=>decide (x.born>=since))=#[]:=by simp [aT]
             have ma:(choose (.mapNext 1)).run P w=.ok 0 w:=by simp [choose,Sem.run,Question.forced]
             simp only [aa,ad];simp [ma];change ((setObj p.aW cb).run P w).andThen _=_;rw [ss];rfl
           . simp only [Rel,bh];exact ⟨_,rfl,_,_,rfl,rfl,_,_,rfl,bK,_,_,rfl,bT,rfl⟩
           . simp only [w',Array.getElem?_setIfInBounds];rw [if_neg (fun e=>a6 e.symm)]
           . exact ⟨p,some zB.aW,a.push e.born,af,dc,nS,by simp [w',lD,cb],by simp [aV],zB,k5,rfl⟩
theorem acI {ay:Fr} {E:Env} {h ab:ah} {w:World} (s:bf ay E h w) {x v:V} {X:Value} (ai:Rel E x X) (he:A3 x h=.val v ab):c8 ay P E w (Instr.entry X) v ab:=by
 unfold A3 at he;obtain ⟨b,off,rfl,aa⟩:=U6 he;clear he;have ae:=s.at (p:=_) (by simp only [Rel] at ai;exact ai.choose_spec.1);cases aF:h.get b<;>rw [aF] at aa<;>simp only at aa<;>try (cases aa;done)
 rename_i src since seen last;rw [aF] at ae;cases a8:Nat.beq off 0 with
 | false=>rw [a8] at aa;cases aa
 | true=>
 rw [a8] at aa;simp only [cond_true] at aa;have a8:=Nat.eq_of_beq_eq_true a8;subst a8;obtain ⟨p,m,a,af,dc,nS,bk,aV,j2⟩:=ae;simp only [Rel] at ai;obtain ⟨q,aA,rfl⟩:=ai;rw [af] at aA;cases aA;have e6:(getObj p.aW).run P w=.ok (.mapIter m since a last) w:=by simp only [getObj,Sem.run,bk]
 cases src with
 | none=>cases aa
 | some c=>
   simp only [vj] at j2;obtain ⟨zB,k5,rfl⟩:=j2;simp only at aa;cases seen with
   | nil=>cases aa
   | cons n h9=>
   simp only at aa;obtain ⟨es,clock,Ks,aa⟩:=L' aa;have tS:=s.at k5;rw [Ks] at tS;obtain ⟨q,nd,g1,_,g3,g4⟩:=tS;rw [k5] at g1;cases g1;have EY:(getObj zB.aW).run P w=.ok (.map nd clock) w:=by simp only [getObj,Sem.run,g3]
   rename_i ad6 _;clear ad6;cases jV:Nat.beq clock last with
   | false=>rw [jV] at aa;cases aa
   | true=>
     rw [jV] at aa;simp only [cond_true] at aa;have:=Nat.eq_of_beq_eq_true jV;subst this;cases J_:AN n es with
     | none=>rw [J_] at aa;cases aa
     | some y=>
       rw [J_] at aa;simp only [a7.val.injEq] at aa;obtain ⟨rfl,rfl⟩:=aa;obtain ⟨e,f1,f2,f3⟩:=Ps es _ y g4 J_;have aeA:a.back? =some n:=by
        have:a.toList.getLast? =some n:=by rw [aV];simp
        simpa using this
       have tT:nd.find? (fun e=>e.born == n)=some e:=by rw [<-f1];simp
       refine c8.plain (Z:=.tuple #[e.key,e.val]) s ?_ ?_
       . simp only [Instr.entry,nS,Sem.run_bind,e6,Result.andThen_ok,aeA,EY,bne_self_eq_false,Bool.false_eq_true,if_false,tT,Sem.run_pure]
       . simp only [Rel,bh];exact ⟨_,rfl,_,_,rfl,f2,_,_,rfl,f3,rfl⟩
end
section
variable {P:Program}
theorem ZL {ay:Fr} {E:Env} {h ab:ah} {w:World} (s:bf ay E h w) {t u e:TypeId} {size:Nat} (afJ:1<=size) {x v:V} {X Y:Value} {ty:TypeId} {n:Nat} {new:List V} {l:List Value}
 (az:bh E new l) (h6:new.length=n * size) (hi:n<=top)
 (fl:∀(w':World) (A:Option Addr) (c0 fC:Nat),c0+n<=fC->(∀a,A=some a->(storeCells (a.add (c0 * size)) l).run P w=.ok () w')->(A=none->w'=w)->
   (Builtin.append_ #[t,u] ty #[.slice A c0 fC,Y]).run P w=.ok (.slice A (c0+n) fC) w')
 (sn:∀(A:Option Addr) (c0 fC:Nat) (bP:List Value),(∀w':World,w'.heap=w.heap->(Builtin.firstCells size c0 (.slice A c0 fC)).run P w'=.ok bP.toArray w')->¬c0+n<=fC->c0+n<=top->bP.length=c0 * size->l.length=n * size->
   ∃cap rest w',c0+n<=cap/\cap * size<=((bP++l).toArray++rest).size/\
   (Builtin.append_ #[t,u] ty #[.slice A c0 fC,Y]).run P w=.ok (.slice (some ⟨w.heap.size,0,none⟩) (c0+n) cap) w'/\
   w'.heap=w.heap.push (.cells ((bP++l).toArray++rest) e)/\w'.os=w.os/\w'.tape=w.tape/\w'.output=w.output)
 (he:DI size n new x h=.val v ab) (ai:Rel E x X):c8 ay P E w (Builtin.append_ #[t,u] ty #[X,Y]) v ab:=by
 have pX:l.length=n * size:=by rw [az.length,h6]
 unfold DI at he;cases x<;>simp only at he<;>try (cases he;done)
 . -- a slice of known capacity
   rename_i b off len cap;simp only [Rel] at ai;obtain ⟨p,af,sh,rfl⟩:=ai;simp only [x1] at he;cases gA:Nat.ble (len+n) cap with
   | true=>
     rw [gA] at he;simp only [cond_true] at he;rw [Nat.ble_eq] at gA;cases k4:lay h b (off+len * size) new with
     | none=>rw [k4] at he;cases he
     | some aa=>
     rw [k4] at he;simp only [a7.val.injEq] at he;obtain ⟨rfl,rfl⟩:=he;obtain ⟨w',cL,hp⟩:=zi (P:=P) s az k4 af;refine ⟨_,w',E,fl w' _ _ _ gA (fun a aV=>?_) (fun aV=>by cases aV),Env.le.refl E,?_,hp⟩
     . cases aV;rw [add_eq,Nat.add_assoc];exact cL
     . simp only [Rel];exact ⟨p,af,gA,rfl⟩
   | false=>
     rw [gA] at he;simp only [cond_false] at he;have K5:¬len+n<=cap:=by rw [<-Nat.ble_eq,gA];simp
     obtain ⟨ae,he⟩:=jv he;simp only [Bool.and_eq_true,Nat.ble_eq] at ae;cases hold:pr h size b off len with
     | none=>rw [hold] at he;cases he
     | some bP=>
     rw [hold] at he;simp only at he;cases gn:j6 h (bP++new) size false with
     | none=>rw [gn] at he;cases he
     | some aa=>
     rw [gn] at he;simp only [a7.val.injEq] at he;obtain ⟨rfl,rfl⟩:=he;obtain ⟨q,bC,aA,eC,sl,hR⟩:=zS (P:=P) s ⟨p,af⟩ hold;rw [af] at aA;cases aA;obtain ⟨c,rest,w',bK,bT,en,gg,km,k8,lM⟩:=sn (some ⟨p.aW,p.base+off,none⟩) (len) (cap) _
      (fun w' hw=>by simp only [Builtin.firstCells];exact hR w' hw) K5 ae.1 (by rw [eC.length,sl]) pX
     obtain ⟨aw,g1,g2,g3⟩:=wV (w':=w') (bZ:=(0,0)) s (eC.append az) gn bT (.inr (Nat.le_refl _)) (fun _=>rfl) gg km k8 lM;refine ⟨_,w',aw,en,g1,?_,g3⟩;simp only [Rel];exact ⟨_,g2,by simp only;omega,by simp⟩
 . -- one that was appended to
   rename_i b off len idx;have BI:=ai;simp only [Rel] at ai;obtain ⟨p,af,Sw,rfl⟩:=ai;simp only [x0] at he;cases jc:Nat.beq n 0 with
   | true=>
     rw [jc] at he;simp only [cond_true] at he;cases he;rw [Nat.beq_eq] at jc;subst jc;have nW:l=[]:=by cases l with | nil=>rfl | cons _ _=>simp at pX
     subst nW;refine ⟨_,w,E,fl w _ _ _ (by omega) (fun a _=>rfl) (fun aV=>by cases aV),Env.le.refl E,?_,s⟩;simpa using BI
   | false=>
     rw [jc] at he;simp only [cond_false] at he;have qU:=s.at af;cases aF:h.get b with
     | dead=>rw [aF] at he;cases he
     | view _ _=>rw [aF] at he;cases he
     | iter _ _=>rw [aF] at he;cases he
     | mp _ _=>rw [aF] at he;cases he
     | df _=>rw [aF] at he;cases he
     | fj=>rw [aF] at he;cases he
     | jH _=>rw [aF] at he;cases he
     | jG _ _ _ _=>rw [aF] at he;cases he
     | cells N cs cX st=>
       rw [aF] at he qU;simp only [b9.on] at he;obtain ⟨ae,he⟩:=jv he;simp only [Bool.and_eq_true,Nat.ble_eq,Nat.beq_eq] at ae;obtain ⟨⟨Kj,KS,KU⟩,Bu⟩:=ae;cases hold:pr h size b off len with
       | none=>rw [hold] at he;cases he
       | some bP=>
       rw [hold] at he;simp only at he;cases gn:j6 (h.set b .dead) (bP++new) size st with
       | none=>rw [gn] at he;cases he
       | some aa=>
       rw [gn] at he;simp only [a7.val.injEq] at he;obtain ⟨rfl,rfl⟩:=he;obtain ⟨q,bC,aA,eC,sl,hR⟩:=zS (P:=P) s ⟨p,af⟩ hold;rw [af] at aA;cases aA;obtain ⟨bH,q,c,el,bZ,aN,dc,bk,qX,cL,mM,bF⟩:=qU;rw [af] at aN;cases aN;have Bw:=afJ;have mM:=mM (by omega);rw [Kj] at mM;have CF:=s.kill af;by_cases gA:len+n<=p.cap-idx
       . -- in place
         have aT:=(Array.getElem?_eq_some_iff.1 bk).1;have ae_:(idx+len+n) * size<=p.cap * size:=Nat.mul_le_mul_right _ (by omega);have hbound:p.base+off+len * size+0+l.length<=c.size:=by
          rw [pX,Bu];have:(idx+len+n) * size=idx * size+len * size+n * size:=by rw [Nat.add_mul,Nat.add_mul]
          omega
         have BF:=GL (P:=P) aT el bZ (p.base+off+len * size) l c 0 (Gh KU az) hbound qX;rw [Nz bk,Nat.add_zero] at BF;have K8:=fl (lj w p.aW (p4 c (p.base+off+len * size) l) el bZ) (some ⟨p.aW,p.base+off,none⟩) _ _ gA
          (fun a aV=>by cases aV;rw [add_eq];exact BF) (fun aV=>by cases aV)
         unfold j6 at gn;obtain ⟨aC,gn⟩:=ey gn;simp only [Bool.and_eq_true,Nat.ble_eq] at aC;simp only [Option.some.injEq] at gn;subst gn;have de:=s.fresh h.next (Nat.le_refl _)
         have hle:E.le (E.put (aj h.next) ⟨p.aW,p.base+off,p.cap-idx⟩):=Env.lP de;have dN:E.put (aj h.next) ⟨p.aW,p.base+off,p.cap-idx⟩ (aj h.next)=some ⟨p.aW,p.base+off,p.cap-idx⟩:=by unfold Env.put;rw [if_pos rfl]
         refine ⟨_,_,_,K8,hle,?_,bf.add (p:=⟨p.aW,p.base+off,p.cap-idx⟩) CF (by rw [NA];exact Nat.le_refl _) (fun j _ a6=>Ny _ _ _ a6) dc (fun bI ep hE nY heq=>?_) rfl rfl rfl (fun _ _ _ e=>by injection e with _ _ bJ;omega) ?_⟩
         . simp only [Rel];exact ⟨_,dN,by simp only;omega,by simp⟩
         . rw [ah.dv] at hE;by_cases iq:b=bI
           . rw [if_pos iq] at hE;cases hE
           . rw [if_neg iq] at hE;exact iq (s.inj b bI p ep (by rw [aF];rfl) hE af nY heq.symm)
         . have E5:(bP++new).length=(len+n) * size:=by rw [List.length_append,sl,h6,Nat.add_mul]
           have aeZ:(len+n) * size=len * size+n * size:=Nat.add_mul _ _ _;refine ⟨aC.1,_,_,el,bZ,dN,dc,CT aT _ _ _,by rw [rb];exact qX,cL,fun _=>?_,?_⟩
           . rw [rb];simp only;have:idx * size + (p.cap-idx) * size=p.cap * size:=by rw [<-Nat.add_mul];congr 1;omega
             omega
           . refine ⟨by rw [rb,E5,Nat.add_mul];simp only;omega,fun i y aq a1=>?_⟩;rw [Cz _ _ _ _ (by omega) (by omega),if_pos (by omega),Nat.sub_zero];rw [FN _ _ _ _ (by omega)] at a1;simp only at a1;by_cases cv:i<len * size
             . rw [if_neg (by omega)] at a1;rw [List.getElem?_append_left (by omega)];have e6:=hR w rfl;have K2:=run_loadCells (P:=P) (w:=w) (off:=p.base+off) (n:=len * size) bk (by omega);rw [K2] at e6;simp only [Result.ok.injEq,and_true] at e6;have Bp:bC=(c.toList.drop (p.base+off)).take (len * size):=by
                have:=congrArg Array.toList e6;simpa using this.symm
               obtain ⟨xx,iv,aG⟩:=eC.get i bP[i] (List.getElem?_eq_getElem (by omega));rw [List.getElem?_eq_getElem (by omega)];rw [Bp] at iv;rw [List.getElem?_take_of_lt (by omega),List.getElem?_drop] at iv;simp only [Array.getElem?_toList] at iv;rw [a1] at iv;cases iv;exact Rel.mono hle _ _ aG
             . rw [if_pos (by omega)] at a1;rw [List.getElem?_append_right (by omega)];have bJ:p.base+off+i - (p.base+off+len * size)=i-bP.length:=by omega
               rw [bJ] at a1;have Br:i-bP.length<new.length:=by omega
               obtain ⟨xx,iv,aG⟩:=az.get (i-bP.length) new[i-bP.length] (List.getElem?_eq_getElem Br);rw [a1] at iv;cases iv;rw [List.getElem?_eq_getElem Br];exact Rel.mono hle _ _ aG
       . -- elsewhere
         obtain ⟨bX,rest,w',bK,bT,en,gg,km,k8,lM⟩:=sn (some ⟨p.aW,p.base+off,none⟩) (len) (p.cap-idx) _
          (fun w' hw=>by simp only [Builtin.firstCells];exact hR w' hw) gA KS (by rw [eC.length,sl]) pX
         obtain ⟨aw,g1,g2,g3⟩:=wV (w':=w') (bZ:=(0,0)) CF (eC.append az) gn bT (.inr (Nat.le_refl _)) (fun _=>rfl) gg km k8 lM;refine ⟨_,w',aw,en,g1,?_,g3⟩;simp only [Rel];exact ⟨_,g2,by simp only;omega,by simp⟩
 . -- nil
   simp only [Rel] at ai;subst ai;simp only [vn] at he;cases jc:Nat.beq n 0 with
   | true=>
     rw [jc] at he;simp only [cond_true] at he;cases he;rw [Nat.beq_eq] at jc;subst jc;exact c8.plain s (fl w _ _ _ (by omega) (fun a aV=>by cases aV) (fun _=>rfl)) (by simp [Rel])
   | false=>
     rw [jc] at he;simp only [cond_false] at he;have Bt:¬n=0:=by intro e;subst e;simp at jc
     cases gn:j6 h new size false with
     | none=>rw [gn] at he;cases he
     | some aa=>
     rw [gn] at he;simp only [a7.val.injEq] at he;obtain ⟨rfl,rfl⟩:=he;obtain ⟨c,rest,w',bK,bT,en,gg,km,k8,lM⟩:=sn (none) (0) (0) []
      (fun w' _=>by simp [Builtin.firstCells]) (by omega) (by omega) (by simp) pX
     obtain ⟨aw,g1,g2,g3⟩:=wV (w':=w') (bZ:=(0,0)) s az gn bT (.inr (Nat.le_refl _)) (fun _=>rfl) gg km k8 lM;refine ⟨_,w',aw,en,g1,?_,g3⟩;simp only [Rel];exact ⟨_,g2,by simp only;omega,by simp⟩
structure Iw (P:Program) (t u e:TypeId) (size bytes:Nat) (k:IntKind) (z:Value):Prop where
 ut:∀w,(underlying t).run P w=.ok (.slice e) w
 s':∀w,(underlying u).run P w=.ok (.int k) w
 ks:∀w,(sizeOf e).run P w=.ok size w
 DY:∀w,∃i,(typeInfo e).run P w=.ok i w/\i.bytes=bytes
 z6:∀w,(zeroValue e).run P w=.ok z w
 iF:z.cells.size=size
 pos:1<=size
 small:bytes<=4096
theorem XT (c:Array Value):Builtin.zeroCells c 0=#[]:=by simp [Builtin.zeroCells]
theorem amA {t u e:TypeId} {size bytes:Nat} {k:IntKind} {z:Value} (H:Iw P t u e size bytes k z) {n:Nat} (aQ:n<=100000) {ty:TypeId} {w w':World} {A:Option Addr} {c0 fC:Nat} (gA:c0+n<=fC)
 (cL:∀a,A=some a->(storeCells (a.add (c0 * size)) (Builtin.zeroCells z.cells n).toList).run P w=.ok () w') (de:A=none->w'=w):
 (Builtin.append_ #[t,u] ty #[.slice A c0 fC,.int .i64 n]).run P w=.ok (.slice A (c0+n) fC) w':=by
 have hw:IntKind.i64.wrap (n:Int)=n:=by unfold IntKind.wrap;simp [IntKind.bits,IntKind.signed];omega
 obtain ⟨i,aq,q0⟩:=H.DY w;have tL:¬(281474976710656 < (n:Int) * (i.bytes:Int)):=by rw [q0];have aa:n * bytes<=100000 * 4096:=Nat.mul_le_mul aQ H.small;have ad:((n * bytes:Nat):Int)=(n:Int) * (bytes:Int):=Int.natCast_mul _ _;omega
 have oW:¬((n:Int)<0):=by omega
 have b':size≠0:=by have:=H.pos;omega
 have aV:∀w,(asInt (.int .i64 (n:Int))).run P w=.ok (n:Int) w:=fun w=>by simp [asInt,asIntOf]
 have ER:∀w,(asInt (.int .i64 0)).run P w=.ok 0 w:=fun w=>by simp [asInt,asIntOf]
 have y9:IntKind.i64.wrap 0=0:=by decide
 cases A with
 | none=>
   have:=de rfl;subst this;by_cases a8:n=0
   . subst a8;simp [Builtin.append_,H.ut,H.s',H.ks,ER,aq,y9,(show c0<=fC from by omega)]
   . simp [Builtin.append_,H.ut,H.s',H.ks,H.z6,aV,aq,tL,hw,gA,oW,b',a8]
 | some a=>
   have:=cL a rfl;by_cases a8:n=0
   . subst a8;rw [XT] at this;simp [Builtin.append_,H.ut,H.s',H.ks,ER,aq,y9,(show c0<=fC from by omega),this]
   . simp [Builtin.append_,H.ut,H.s',H.ks,H.z6,aV,aq,tL,hw,gA,oW,Nat.mul_ne_zero a8 b',this]
theorem amB {t u e:TypeId} {size bytes:Nat} {k:IntKind} {z:Value} (H:Iw P t u e size bytes k z) {n:Nat} (aQ:n<=100000) {ty:TypeId} {w:World} (A:Option Addr) (c0 fC:Nat) (bP:List Value)
 (hold:∀w':World,w'.heap=w.heap->(Builtin.firstCells size c0 (.slice A c0 fC)).run P w'=.ok bP.toArray w') (gA:¬c0+n<=fC) (BE:c0+n<=top) (aX:bP.length=c0 * size) (az:(Builtin.zeroCells z.cells n).toList.length=n * size):
 ∃cap rest w',c0+n<=cap/\cap * size<=((bP++(Builtin.zeroCells z.cells n).toList).toArray++rest).size/\
  (Builtin.append_ #[t,u] ty #[.slice A c0 fC,.int .i64 n]).run P w=.ok (.slice (some ⟨w.heap.size,0,none⟩) (c0+n) cap) w'/\
  w'.heap=w.heap.push (.cells ((bP++(Builtin.zeroCells z.cells n).toList).toArray++rest) e)/\w'.os=w.os/\w'.tape=w.tape/\w'.output=w.output:=by
 have hw:IntKind.i64.wrap (n:Int)=n:=by simp only [IntKind.wrap,IntKind.bits,IntKind.signed];simp;omega
 obtain ⟨i,aq,q0⟩:=H.DY w;have j3:P.info? e=some i:=by
  simp only [typeInfo,Sem.run_bind,run_program,Result.andThen_ok] at aq;cases aA:P.info? e with
  | none=>rw [aA] at aq;simp at aq
  | some j=>rw [aA] at aq;simp at aq;rw [aq]
 have iP:∀w',(typeInfo e).run P w'=.ok i w':=fun w'=>zM j3 w';have agF:¬(281474976710656 < (n:Int) * (i.bytes:Int)):=by rw [q0];have aa:n * bytes<=100000 * 4096:=Nat.mul_le_mul aQ H.small;have ad:((n * bytes:Nat):Int)=(n:Int) * (bytes:Int):=Int.natCast_mul _ _;omega
 have tL:¬(281474976710656<Builtin.nextslicecap (c0+n) fC * i.bytes):=by
  have aa:fC<c0+n:=by omega
  have:=growslice_fits (bytes:=i.bytes) aa (by rw [q0];have ad:(c0+n) * bytes<=top * 4096:=Nat.mul_le_mul BE H.small;unfold top at ad;omega);omega
 have iO:¬(9223372036854775807 < ((c0:Int) + (n:Int))):=by unfold top at BE;omega
 have oW:¬((n:Int)<0):=by omega
 have b':size≠0:=by have:=H.pos;omega
 have aV:∀w,(asInt (.int .i64 (n:Int))).run P w=.ok (n:Int) w:=fun w=>by simp [asInt,asIntOf]
 have ER:∀w,(asInt (.int .i64 0)).run P w=.ok 0 w:=fun w=>by simp [asInt,asIntOf]
 have y9:IntKind.i64.wrap 0=0:=by decide
 let q:Question:=.appendCap (c0+n) fC e
 let cap:=q.cut (w.tape w.drawn q)
 have mM:c0+n<=cap:=by show c0+n<=(c0+n)+_;omega
 refine ⟨cap,Builtin.zeroCells z.cells (cap - (c0+n)),w.drew.alloc (.cells ((bP++(Builtin.zeroCells z.cells n).toList).toArray++Builtin.zeroCells z.cells (cap - (c0+n))) e),mM,?_,?_,rfl,rfl,rfl,rfl⟩
 . simp only [Array.size_append,List.size_toArray,List.length_append,aX,az];have:(Builtin.zeroCells z.cells (cap - (c0+n))).size=(cap - (c0+n)) * size:=by simp [Builtin.zeroCells,H.iF]
   rw [this,<-Nat.add_mul,<-Nat.add_mul];exact Nat.mul_le_mul_right _ (by omega)
 . have f2:=hold w.drew rfl;by_cases a8:n=0
   . subst a8;have afW:¬c0<=fC:=by omega
     have aex:¬(9223372036854775807 < (c0:Int)):=by omega
     rw [Nat.add_zero] at tL;simp [Builtin.append_,H.ut,H.s',H.ks,H.z6,ER,y9,iP,afW,tL,aex,Question.forced,f2,newRow];refine ⟨rfl,?_⟩;have aN:(bP++(Builtin.zeroCells z.cells 0).toList).toArray=bP.toArray:=by rw [XT];simp
     rw [aN];rfl
   . simp [Builtin.append_,H.ut,H.s',H.ks,H.z6,aV,hw,agF,oW,Nat.mul_ne_zero a8 b',gA,iP,tL,iO,Question.forced,f2,newRow];refine ⟨rfl,?_⟩;have aN:(bP++(Builtin.zeroCells z.cells n).toList).toArray=bP.toArray++Builtin.zeroCells z.cells n:=by simp
     rw [aN,Array.append_assoc]
end
section
variable {P:Program}
abbrev ct (rd:Option Nat):Fence:={fn:=fun _=>True,depth:=none,alive:=false,round:=rd}
theorem tB {rd:Option Nat} {n:Nat} {f:FuncId} {args:Array Value} {w:World} {R:Ending->World->Prop}:CallsIn (ct rd) n P f args w R↔Calls P f args w R:=callsIn_wide
theorem MV {rd:Option Nat} (n:Nat):(ct rd).room n:=fun _ h=>by simp [ct] at h
abbrev qd (x:Value):List PanicEntry:=[{v:=x,recovered:=false}]
structure gW (P:Program) (call:dJ):Prop where
 fn:∀(ay:Fr) f args h v ab,f≠dt->call f args h=.val v ab->∀E w xs,bh E args xs->bf ay E h w->
  ((∃fn,P.funcs[f]? =some fn/\fn.body.isSome=true)/\Calls P f xs.toArray w fun e w'=>∃aw x,e=.returned x/\E.le aw/\Rel aw v x/\bf ay aw ab w')\/
  ∃aw x w',(callFunc f xs.toArray).run P w=.ok (.value x) w'/\E.le aw/\Rel aw v x/\bf ay aw ab w'
 cM:∀(ay:Fr) f args h v ab,f≠dt->call f args h=.cM v ab->∀E w xs,bh E args xs->bf ay E h w->
  (∃fn,P.funcs[f]? =some fn/\fn.body.isSome=true)/\Calls P f xs.toArray w fun e w'=>∃aw x,e=.panicked (qd x)/\E.le aw/\Rel aw v x/\bf ay aw ab w'
 XP:∀(ay:Fr) args b h v ab,call dt (args++[.ptr b 0]) h=.val v ab->∀E w xs p,bh E args xs->bf ay E h w->E b=some p->
  ∃f tmps assign body,(Instr.yield p.aW xs.toArray).run P w=.ok (.round p.aW f tmps assign body) w/\
   RoundIn (ct none) 0 P p.aW f tmps assign body w fun e w'=>∃aw x,e=.returned x/\E.le aw/\Rel aw v x/\bf ay aw ab w'
 XR:∀args h v ab,call dt args h≠.cM v ab
theorem qi {rd:Option Nat} {o:Oper} (oV:∀c,o.op≠.defer c) (ρ:Operand->Value):o.semAt (ct rd).round ρ=execOp ρ o:=Oper.semAt_eq _ ρ o oV
theorem gu {rd:Option Nat} {o:Oper} {a:Act} {w:World} {ay:Fr} {E:Env} {ab:ah} {v:V} {m:Sem Value} {K:Act->World->Prop} {Q:Exit->Act->World->Prop}
 (ai:execOp a.eval o=(do pure (.value (<-m)))) (g:c8 ay P E w m v ab) (dK:∀aw x w',E.le aw->Rel aw v x->bf ay aw ab w'->K (a.put o.dst x) w') (oV:∀c,o.op≠.defer c:=by intro c h;cases h):
 o.wpIn (ct rd) 0 P a w K Q:=by
 obtain ⟨Z,w',aw,aa,ad,aH,bt⟩:=g;refine ⟨fun _ _=>trivial,?_⟩;rw [qi oV,ai,Sem.run_bind,aa];exact dK aw Z w' ad aH bt
theorem Gq {E:Env} {ar:Nat} {r:bB} {a:Act} (k:RegRel0 E ar r a):∀l:List (Nat × Operand),rS E ((uz l).run r) (l.map fun (i,x)=>(i,a.eval x))
 | []=>rfl
 | (i,x)::l=>by simp only [uz,List.map,rS];exact ⟨_,_,rfl,dA k x,Gq k l⟩
theorem Gn {E:Env} {ar:Nat} {r:bB} {a:Act} (k:RegRel0 E ar r a) (x:Option Operand):hW E ((rl x).run r) (x.map a.eval):=by
 cases x with
 | none=>rfl
 | some x=>simp only [rl,hW,Option.map];exact ⟨_,rfl,dA k x⟩
theorem ak9 {v:V} {f:aO->Nat->a7} {r:V} {h:ah} (he:v.jK .fail f=.val r h):∃b off,v=.ptr b off/\f b off=.val r h:=by
 cases v<;>simp only [V.jK] at he<;>first
  | (cases he;done)
  | exact ⟨_,_,rfl,he⟩
theorem akK {ay:Fr} {E:Env} {h ab:ah} {w:World} (s:bf ay E h w) {x v:V} {X:Value} {ty:TypeId} (ai:Rel E x X) (he:wW x h=.val v ab):c8 ay P E w (Instr.next X true ty) v ab:=by
 unfold wW at he;obtain ⟨b,off,rfl,aa⟩:=ak9 he;have ae:=s.at (p:=_) (by simp only [Rel] at ai;exact ai.choose_spec.1);cases aF:h.get b with
 | dead=>rw [aF] at aa;cases aa
 | view _ _=>rw [aF] at aa;cases aa
 | cells _ _ _ _=>rw [aF] at aa;cases aa
 | mp _ _=>rw [aF] at aa;cases aa
 | df _=>rw [aF] at aa;cases aa
 | fj=>rw [aF] at aa;cases aa
 | jH _=>rw [aF] at aa;cases aa
 | jG _ _ _ _=>rw [aF] at aa;cases aa
 | iter st pos=>
   rw [aF] at aa ae;simp only at aa;obtain ⟨a8,ad⟩:=jv aa;rw [Nat.beq_eq] at a8;subst a8;obtain ⟨p,af,dc,nS,bk⟩:=ae;simp only [Rel] at ai;obtain ⟨q,aA,rfl⟩:=ai;rw [af] at aA;cases aA;have e6:(getObj p.aW).run P w=.ok (.stringIter ⟨⟨st⟩⟩ pos) w:=by simp only [getObj,Sem.run,bk]
   have b':(⟨⟨st⟩⟩:ByteArray).size=st.length:=rfl;cases aT:Nat.blt pos st.length with
   | true=>
     rw [aT] at ad;simp only [cond_true,a7.val.injEq] at ad;obtain ⟨rfl,rfl⟩:=ad;rw [Nat.blt_eq] at aT
     let cb:Obj:=.stringIter ⟨⟨st⟩⟩ (pos + (decodeL st pos).2)
     let w':World:={w with heap:=w.heap.setIfInBounds p.aW cb}
     have lD:=(Array.getElem?_eq_some_iff.1 bk).1;have ss:(setObj p.aW cb).run P w=.ok () w':=by simp only [setObj,Sem.run,bk];rfl
     refine ⟨.tuple #[.bool true,goInt pos,.int .i32 (decodeL st pos).1],w',E,?_,Env.le.refl E,?_,s.set (p:=p) (by rw [aF];rfl) af dc (by simp [w']) (fun j a6=>?_) rfl rfl rfl (fun _ _ _ e=>by cases e) ?_⟩
     . simp only [Instr.next,nS,Sem.run_bind,e6,Result.andThen_ok,b',if_pos aT];have:(Utf8.decode (⟨⟨st⟩⟩:ByteArray) pos)=decodeL st pos:=rfl;simp only [this];rw [ss];rfl
     . simp only [Rel,bh];exact ⟨_,rfl,_,_,rfl,rfl,_,_,rfl,rfl,_,_,rfl,rfl,rfl⟩
     . simp only [w',Array.getElem?_setIfInBounds];rw [if_neg (fun e=>a6 e.symm)]
     . exact ⟨p,af,dc,nS,by simp [w',lD,cb]⟩
   | false=>
     rw [aT] at ad;simp only [cond_false,a7.val.injEq] at ad;obtain ⟨rfl,rfl⟩:=ad;have mQ:¬pos<st.length:=by rw [<-Nat.blt_eq,aT];simp
     refine c8.plain (Z:=.tuple #[.bool false]) s ?_ ?_
     . simp only [Instr.next,nS,Sem.run_bind,e6,Result.andThen_ok,b',if_neg mQ,Sem.run_pure]
     . simp only [Rel,bh];exact ⟨_,rfl,_,_,rfl,rfl,rfl⟩
theorem amh {ay:Fr} {E:Env} {h ab:ah} {w:World} (s:bf ay E h w) {t:TypeId} {x v:V} {X:Value} (ai:Rel E x X) (he:(Gz P t).run x h=.val v ab):c8 ay P E w (Instr.range t X) v ab:=by
 unfold Gz at he;cases au:a' P t with
 | none=>rw [au] at he;cases he
 | some aP=>
   rw [au] at he;simp only at he;have hu:=fB au;cases bR:aP.bg with
   | string=>
     rw [bR] at he hu;simp only at he;cases x<;>simp only at he<;>try (cases he;done)
     rename_i st;simp only [a7.val.injEq] at he;obtain ⟨rfl,rfl⟩:=he;have:=ai.s5;subst this;have de:=s.fresh h.next (Nat.le_refl _)
     have dN:E.put (aj h.next) ⟨w.heap.size,0,0⟩ (aj h.next)=some ⟨w.heap.size,0,0⟩:=by unfold Env.put;rw [if_pos rfl]
     refine ⟨.pointer (some ⟨w.heap.size,0,none⟩),{w with heap:=w.heap.push (.stringIter ⟨⟨st⟩⟩ 0)},_,?_,Env.lP (p:=⟨w.heap.size,0,0⟩) de,?_,s.alloc 0 ?_⟩
     . simp only [Instr.range,Sem.run_bind,hu,Result.andThen_ok,Sem.run_pure,run_newObj]
     . simp only [Rel];exact ⟨_,dN,by simp⟩
     . exact ⟨_,dN,s.frame.size,rfl,by simp⟩
   | map cw hg=>
     rw [bR] at he hu;exact ami s (hu w) ai he
   | _=>rw [bR] at he;cases he
theorem ZI {ay:Fr} {E:Env} {h ab:ah} {w:World} (s:bf ay E h w) {t u:TypeId} {x y v:V} {X Y:Value} {ty:TypeId}
 (he:(DH P t u).run x y h=.val v ab) (ai:Rel E x X) (a1:Rel E y Y):c8 ay P E w (Builtin.append_ #[t,u] ty #[X,Y]) v ab:=by
 unfold DH at he;cases au:a' P t with
 | none=>rw [au] at he;cases he
 | some aP=>
   cases hu:a' P u with
   | none=>rw [au,hu] at he;cases he
   | some s9=>
     rw [au,hu] at he;simp only at he;have main:(∀k,s9.bg≠.int k)->(match aP.bg with
      | .slice e=>match a' P e with
        | none=>(⟨fun _ _ _=>.fail⟩:Aa)
        | some a_=>match a_.zero with
          | none=>⟨fun _ _ _=>.fail⟩
          | some z=>bif Nat.ble 1 a_.size&&Nat.ble a_.bytes 4096&&Nat.beq z.cells.length a_.size then ⟨lr a_.size⟩ else ⟨fun _ _ _=>.fail⟩
      | _=>⟨fun _ _ _=>.fail⟩).run x y h=.val v ab->c8 ay P E w (Builtin.append_ #[t,u] ty #[X,Y]) v ab:=by
      intro q3 he;cases bR:aP.bg with
      | slice e=>
        rw [bR] at he;simp only at he;cases cq:a' P e with
        | none=>rw [cq] at he;cases he
        | some a_=>
          rw [cq] at he;simp only at he;cases bn:a_.zero with
          | none=>rw [bn] at he;cases he
          | some z=>
            rw [bn] at he;simp only at he;cases aC:(Nat.ble 1 a_.size&&Nat.ble a_.bytes 4096&&Nat.beq z.cells.length a_.size) with
            | false=>rw [aC] at he;cases he
            | true=>
              rw [aC] at he;simp only [cond_true] at he;simp only [Bool.and_eq_true,Nat.ble_eq,Nat.beq_eq] at aC;obtain ⟨ll,wA,_,o1⟩:=tc (P:=P) (E:=E) cq bn w;refine ZK s ⟨fun w=>?_,⟨s9.bg,fun w=>fB hu w,q3⟩,fun w=>j9 cq w,fun w=>GJ cq w,⟨ll,wA,by rw [o1];exact aC.2⟩,aC.1.1,aC.1.2⟩ he ai a1;have:=fB au w;rw [bR] at this;exact this
      | _=>rw [bR] at he;cases he
     cases y5:s9.bg with
     | int k=>
       rw [y5] at he;simp only at he;cases bR:aP.bg with
       | slice e=>
         rw [bR] at he;simp only at he;cases cq:a' P e with
         | none=>rw [cq] at he;cases he
         | some a_=>
           rw [cq] at he;simp only at he;cases bn:a_.zero with
           | none=>rw [bn] at he;cases he
           | some z=>
             rw [bn] at he;simp only at he;cases aC:(Nat.ble 1 a_.size&&Nat.ble a_.bytes 4096&&Nat.beq z.cells.length a_.size) with
             | false=>rw [aC] at he;cases he
             | true=>
               rw [aC] at he;simp only [cond_true] at he;simp only [Bool.and_eq_true,Nat.ble_eq,Nat.beq_eq] at aC;obtain ⟨ll,wA,Fx,o1⟩:=tc (P:=P) (E:=E) cq bn w;have y7:∀w,(underlying t).run P w=.ok (.slice e) w:=fun w=>by have:=fB au w;rw [bR] at this;exact this
               have Lb:∀w,(underlying u).run P w=.ok (.int k) w:=fun w=>by have:=fB hu w;rw [y5] at this;exact this
               have H:Iw P t u e a_.size a_.bytes k ll:=⟨y7,Lb,fun w=>j9 cq w,fun w=>GJ cq w,wA,by rw [o1];exact aC.2,aC.1.1,aC.1.2⟩;unfold x2 at he
               split at he
               case h_2=>cases he
               rename_i c' m
               split at he
               case h_2=>cases he
               rename_i n;obtain ⟨pU,ba⟩:=jv he;simp only [Bool.and_eq_true,Nat.ble_eq] at pU;have aD:=tH pU.1;subst aD;simp only [Rel] at a1;subst a1;have S1:=zJ Fx n;have hlen:(hI z.cells n).length=n * a_.size:=by rw [<-S1.length];simp [Builtin.zeroCells,o1,aC.2]
               exact ZL s aC.1.1 S1 hlen (by have:=pU.2;unfold top;omega) (fun w' A c0 fC a b c=>amA H pU.2 a b c) (fun A c0 fC bP a b c d f=>amB H pU.2 A c0 fC bP a b c d f) ba ai
       | _=>rw [bR] at he;cases he
     | _=>rw [y5] at he;exact main (by rw [y5];simp) he
theorem acb {ay:Fr} {E:Env} {h ab:ah} {w:World} (s:bf ay E h w) {t:TypeId} {rest:List TypeId} {x y v:V} {X Y:Value} {ty:TypeId}
 (he:(D_ P t).run x y h=.val v ab) (ai:Rel E x X) (a1:Rel E y Y):c8 ay P E w (Builtin.copy_ (t::rest).toArray ty #[X,Y]) v ab:=by
 unfold D_ at he;cases au:a' P t with
 | none=>rw [au] at he;cases he
 | some aP=>
   rw [au] at he;simp only at he;cases bR:aP.bg with
   | slice e=>
     rw [bR] at he;simp only at he;cases cq:a' P e with
     | none=>rw [cq] at he;cases he
     | some a_=>
       rw [cq] at he;simp only at he;exact acd s (fun w=>by have:=fB au w;rw [bR] at this;exact this) (fun w=>j9 cq w) he ai a1
   | _=>rw [bR] at he;cases he
theorem abX {ay:Fr} {E:Env} {h ab:ah} {w:World} (s:bf ay E h w) {t:TypeId} {x v:V} {X:Value} {ty:TypeId} {z:List V} (aC:AU P t=some z)
 (he:D' z x h=.val v ab) (ai:Rel E x X):c8 ay P E w (Builtin.clear_ #[t] ty #[X]) v ab:=by
 unfold AU at aC;cases au:a' P t with
 | none=>rw [au] at aC;cases aC
 | some aP=>
   rw [au] at aC;simp only at aC;cases bR:aP.bg with
   | slice e=>
     rw [bR] at aC;simp only at aC;cases cq:a' P e with
     | none=>rw [cq] at aC;cases aC
     | some a_=>
       rw [cq] at aC;simp only at aC;cases bn:a_.zero with
       | none=>rw [bn] at aC;cases aC
       | some z0=>
         rw [bn] at aC;simp only [Option.some.injEq] at aC;subst aC;have hu:∀w,(underlying t).run P w=.ok (.slice e) w:=fun w=>by have:=fB au w;rw [bR] at this;exact this
         obtain ⟨z,mi,Fx,zb⟩:=tc (P:=P) (E:=E) cq bn w;have nothing:∀a c,X=.slice a 0 c->v=.tuple []->ab=h->c8 ay P E w (Builtin.clear_ #[t] ty #[X]) v ab:=by
          intro a c cp ba bk;subst cp ba bk;refine ⟨.tuple #[],w,E,?_,Env.le.refl E,?_,s⟩
          . cases a<;>simp [Builtin.clear_,Sem.run_bind,hu,Result.andThen_ok,Sem.run_pure]
          . simp only [Rel];exact ⟨_,rfl,rfl⟩
         have WH:∀(b:aO) (off n c:Nat) (p:jr),E b=some p->X=.slice (some ⟨p.aW,p.base+off,none⟩) n c->(bif Nat.beq n 0 then (a7.val (.tuple []) h) else (match lay h b off (hI z0.cells n) with
          | some ab=>a7.val (.tuple []) ab
          | none=>.fail))=.val v ab->c8 ay P E w (Builtin.clear_ #[t] ty #[X]) v ab:=by
          intro b off n c p af cp he;cases n with
          | zero=>
            simp only [Nat.beq_refl,cond_true,a7.val.injEq] at he;exact nothing _ _ cp he.1.symm he.2.symm
          | succ n=>
            simp only [show Nat.beq (n+1) 0=false from rfl,cond_false] at he;cases az:lay h b off (hI z0.cells (n+1)) with
            | none=>rw [az] at he;cases he
            | some aa=>
              rw [az] at he;simp only [a7.val.injEq] at he;obtain ⟨rfl,rfl⟩:=he;obtain ⟨w',g1,g2⟩:=zi (P:=P) s (zJ Fx (n+1)) az af;subst cp;refine ⟨.tuple #[],w',E,?_,Env.le.refl E,?_,g2⟩
              . simp only [Builtin.clear_,Sem.run_bind,List.getElem?_toArray,List.getElem?_cons_zero,hu,mi,Result.andThen_ok];have:(storeCells ⟨p.aW,p.base+off,none⟩ (Builtin.zeroCells z.cells (n+1)).toList).run P w=.ok () w':=g1;simp [this,Sem.run_pure,Result.andThen_ok]
              . simp only [Rel];exact ⟨_,rfl,rfl⟩
         unfold D' at he;cases x<;>simp only at he<;>try (cases he;done)
         . simp only [Rel] at ai;obtain ⟨p,g1,g2,g3⟩:=ai;exact WH _ _ _ _ p g1 g3 he
         . simp only [Rel] at ai;obtain ⟨p,g1,g2,g3⟩:=ai;exact WH _ _ _ _ p g1 g3 he
         . simp only [Rel] at ai;obtain ⟨a,c,rfl⟩:=ai;simp only [a7.val.injEq] at he;exact nothing _ _ rfl he.1.symm he.2.symm
         . simp only [Rel] at ai;simp only [a7.val.injEq] at he;exact nothing _ _ ai he.1.symm he.2.symm
   | _=>rw [bR] at aC;cases aC
theorem abx {E:Env} {t:TypeId} {aP:nF} {x v:V} {X:Value} {ty:TypeId} (au:a' P t=some aP) (aM:BS aP.bg=true) (he:r4 x=some v) (ai:Rel E x X) (w:World):
 ∃Z,(Builtin.cap_ #[t] ty #[X]).run P w=.ok Z w/\Rel E v Z:=by
 cases bR:aP.bg with
 | slice e=>
   have hu:∀w,(underlying t).run P w=.ok (.slice e) w:=fun w=>by have:=fB au w;rw [bR] at this;exact this
   cases x<;>simp only [r4] at he<;>try (cases he;done)
   . simp only [Rel] at ai;obtain ⟨p,_,_,rfl⟩:=ai;cases he;refine ⟨_,?_,rfl⟩;simp [Builtin.cap_,Sem.run_bind,hu,Result.andThen_ok,Sem.run_pure];rfl
   . simp only [Rel] at ai;subst ai;cases he;refine ⟨_,?_,rfl⟩;simp [Builtin.cap_,Sem.run_bind,hu,Result.andThen_ok,Sem.run_pure];rfl
 | _=>rw [bR] at aM;cases aM
theorem CL {α:Type} (a:Array α):a.toList.toArray=a:=by simp
theorem aar {ay:Fr} {E:Env} {h ab:ah} {w:World} (s:bf ay E h w) {b:Builtin} {cJ:Array TypeId} {args:List V} {xs:List Value} {v:V} {ty:TypeId} {cs:Array Bool} (az:bh E args xs)
 (he:(qH P b cJ.toList).run args h=.val v ab):∃m:Sem Value,Go.builtin b cJ ty cs xs.toArray=(do pure (.value (<-m)))/\c8 ay P E w m v ab:=by
 have one:∀{x:V},bh E [x] xs->∃X,xs=[X]/\Rel E x X:=by intro x h;simp only [bh] at h;obtain ⟨y,cT,rfl,a1,rfl⟩:=h;exact ⟨y,rfl,a1⟩
 have two:∀{x y:V},bh E [x,y] xs->∃X Y,xs=[X,Y]/\Rel E x X/\Rel E y Y:=by intro x y h;simp only [bh] at h;obtain ⟨X,_,rfl,cp,Y,_,rfl,eM,rfl⟩:=h;exact ⟨X,Y,rfl,cp,eM⟩
 cases b<;>simp only [qH] at he<;>try (simp [f_.none] at he;done)
 . -- append
   cases fx:cJ.toList with
   | nil=>rw [fx] at he;simp [f_.none] at he
   | cons t s8=>
     rw [fx] at he;cases s8 with
     | nil=>simp [f_.none] at he
     | cons u an5=>
       cases an5 with
       | cons _ _=>simp [f_.none] at he
       | nil=>
         simp only at he
         match args,he,az with
         | [x,y],he,az=>
           obtain ⟨X,Y,rfl,cp,eM⟩:=two az;have e:cJ=#[t,u]:=by rw [<-CL cJ,fx]
           exact ⟨_,rfl,by rw [e];exact ZI s he cp eM⟩
         | [],he,_=>cases he
         | [_],he,_=>cases he
         | _::_::_::_,he,_=>cases he
 . -- cap
   cases fx:cJ.toList with
   | nil=>rw [fx] at he;simp [f_.none] at he
   | cons t s8=>
     rw [fx] at he;cases s8 with
     | cons _ _=>simp [f_.none] at he
     | nil=>
       simp only at he;cases au:a' P t with
       | none=>rw [au] at he;simp [f_.none] at he
       | some aP=>
         rw [au] at he;simp only at he;cases aM:BS aP.bg with
         | false=>rw [aM] at he;simp [f_.none] at he
         | true=>
           rw [aM] at he;simp only [cond_true] at he
           match args,he,az with
           | [x],he,az=>
             obtain ⟨X,rfl,cp⟩:=one az;have e:cJ=#[t]:=by rw [<-CL cJ,fx]
             obtain ⟨ef,rfl⟩:=a7.iy he;obtain ⟨Z,fw,cC⟩:=abx (P:=P) (ty:=ty) au aM ef cp w;exact ⟨_,rfl,by rw [e];exact c8.plain s fw cC⟩
           | [],he,_=>cases he
           | _::_::_,he,_=>cases he
 . -- clear
   cases fx:cJ.toList with
   | nil=>rw [fx] at he;simp [f_.none] at he
   | cons t s8=>
     rw [fx] at he;cases s8 with
     | cons _ _=>simp [f_.none] at he
     | nil=>
       simp only at he;cases aC:AU P t with
       | none=>rw [aC] at he;simp [f_.none] at he
       | some z=>
         rw [aC] at he;simp only at he
         match args,he,az with
         | [x],he,az=>
           obtain ⟨X,rfl,cp⟩:=one az;have e:cJ=#[t]:=by rw [<-CL cJ,fx]
           exact ⟨_,rfl,by rw [e];exact abX s aC he cp⟩
         | [],he,_=>cases he
         | _::_::_,he,_=>cases he
 . -- copy
   cases fx:cJ.toList with
   | nil=>rw [fx] at he;simp [f_.none] at he
   | cons t s8=>
     rw [fx] at he;simp only at he
     match args,he,az with
     | [x,y],he,az=>
       obtain ⟨X,Y,rfl,cp,eM⟩:=two az;have e:cJ=(t::s8).toArray:=by rw [<-CL cJ,fx]
       exact ⟨_,rfl,by rw [e];exact acb s he cp eM⟩
     | [],he,_=>cases he
     | [_],he,_=>cases he
     | _::_::_::_,he,_=>cases he
 . -- len
   cases fx:cJ.toList with
   | nil=>rw [fx] at he;simp [f_.none] at he
   | cons t s8=>
     rw [fx] at he;cases s8 with
     | cons _ _=>simp [f_.none] at he
     | nil=>
       simp only at he;cases au:a' P t with
       | none=>rw [au] at he;simp [f_.none] at he
       | some aP=>
         rw [au] at he;simp only at he
         match args,he,az with
         | [x],he,az=>
           obtain ⟨X,rfl,cp⟩:=one az;have e:cJ=[t].toArray:=by rw [<-CL cJ,fx]
           cases hm:ui aP.bg with
           | true=>
             rw [hm] at he;exact ⟨_,rfl,by rw [e];exact ajO s au hm cp ty [] he⟩
           | false=>
             rw [hm] at he;simp only [cond_false] at he;obtain ⟨ef,rfl⟩:=a7.iy he;obtain ⟨Z,fw,cC⟩:=ajP (P:=P) au ef cp ty [] w;exact ⟨_,rfl,by rw [e];exact c8.plain s fw cC⟩
         | [],he,_=>cases hm:ui aP.bg<;>rw [hm] at he<;>cases he
         | _::_::_,he,_=>cases hm:ui aP.bg<;>rw [hm] at he<;>cases he
 . -- max
   obtain ⟨ef,rfl⟩:=a7.iy he;clear he;cases args with
   | nil=>cases ef
   | cons x args=>
     simp only [kK] at ef;obtain ⟨k,a,rfl,aa⟩:=j7 ef;simp only [bh] at az;obtain ⟨X,cT,rfl,cp,az⟩:=az;have:=cp.iQ;subst this;obtain ⟨Z,fw,cC⟩:=Ml (P:=P) false args cT k a v az aa w;exact ⟨_,rfl,c8.plain (Z:=Z) s (by simpa [Builtin.max_] using fw) cC⟩
 . -- min
   obtain ⟨ef,rfl⟩:=a7.iy he;clear he;cases args with
   | nil=>cases ef
   | cons x args=>
     simp only [kK] at ef;obtain ⟨k,a,rfl,aa⟩:=j7 ef;simp only [bh] at az;obtain ⟨X,cT,rfl,cp,az⟩:=az;have:=cp.iQ;subst this;obtain ⟨Z,fw,cC⟩:=Ml (P:=P) true args cT k a v az aa w;exact ⟨_,rfl,c8.plain (Z:=Z) s (by simpa [Builtin.min_] using fw) cC⟩
end
section
variable {P:Program}
def eF (P:Program):Prop:=∀(f:FuncId) (fn:Func),P.funcs[f]? =some fn->(fn.name == "runtime.NumGoroutine")=false
theorem uN (bH:eF P) {f:FuncId} {fn:Func} (aB:P.funcs[f]? =some fn) (ae:fn.body.isSome=true) (args:Array Value) (w:World):(callFunc f args).run P w=.ok (.enter f args) w:=by
 have fb:fn.body.isNone=false:=by cases h:fn.body with | none=>rw [h] at ae;cases ae | some c=>rfl
 simp only [callFunc,Sem.run_bind,run_program,Result.andThen_ok,aB];rw [if_neg (by rw [bH f fn aB];simp)];simp [fb]
theorem LM {α β:Type} (f:α->β) (a:Array α):a.map f=(a.toList.map f).toArray:=by apply Array.ext';simp
theorem Mj (ρ:Operand->Value) (bj:Array (Nat × Operand)):(bj.map fun (i,x)=>(i,ρ x))=(bj.toList.map fun (i,x)=>(i,ρ x)).toArray:=by apply Array.ext';simp
theorem Z0 {E:Env} {t uX:TypeId} {aP:nF} {ok:Bool} {x v:V} {X:Value} (au:a' P t=some aP) (ae:Nat.beq (e9 aP.bg) 5=false) (ai:Rel E x X)
 (he:AG t aP.zero ok x=some v) (w:World):∃Z,(Instr.typeAssert X uX t ok).run P w=.ok Z w/\Rel E v Z:=by
 have hu:=fB au w;have q3:∀ms,aP.bg≠.interface ms:=fun ms e=>by rw [e] at ae;simp [e9] at ae
 have zero:∀z,aP.zero=some z->∃x,(zeroValue t).run P w=.ok x w/\Rel E z x:=fun z bn=>by obtain ⟨x,aa,ad,_⟩:=zN (P:=P) au bn E w;exact ⟨x,aa,ad⟩
 unfold AG at he;cases x<;>simp only at he<;>try (cases he;done)
 case iface u y=>
  simp only [Rel] at ai;obtain ⟨Y,rfl,eM⟩:=ai;rw [h3] at he;by_cases y7:u=t
  . rw [if_pos y7] at he;simp only [Option.some.injEq] at he;subst y7;cases ok with
    | true=>
      simp only [cond_true] at he;subst he;refine ⟨.tuple #[Y,.bool true],?_,by simp only [Rel,bh];exact ⟨_,rfl,_,_,rfl,eM,_,_,rfl,rfl,rfl⟩⟩;simp only [Instr.typeAssert,Sem.run_bind,hu,Result.andThen_ok];cases bR:aP.bg<;>first
       | exact absurd bR (q3 _)
       | (simp only [if_true];rfl)
    | false=>
      simp only [cond_false] at he;subst he;refine ⟨Y,?_,eM⟩;simp only [Instr.typeAssert,Sem.run_bind,hu,Result.andThen_ok];cases bR:aP.bg<;>first
       | exact absurd bR (q3 _)
       | (simp only [if_true];rfl)
  . rw [if_neg y7] at he;cases ok with
    | false=>cases he
    | true=>
      simp only [cond_true] at he;cases bn:aP.zero with
      | none=>rw [bn] at he;cases he
      | some z=>
        rw [bn] at he;simp only [Option.some.injEq] at he;subst he;obtain ⟨bp,b6,z2⟩:=zero z bn;refine ⟨.tuple #[bp,.bool false],?_,by simp only [Rel,bh];exact ⟨_,rfl,_,_,rfl,z2,_,_,rfl,rfl,rfl⟩⟩;simp only [Instr.typeAssert,Sem.run_bind,hu,Result.andThen_ok];cases bR:aP.bg<;>first
         | exact absurd bR (q3 _)
         | (simp only [if_neg y7,if_true,Sem.run_bind,b6,Result.andThen_ok];rfl)
 case nilIface=>
  simp only [Rel] at ai;subst ai;cases ok with
  | false=>cases he
  | true=>
    simp only [cond_true] at he;cases bn:aP.zero with
    | none=>rw [bn] at he;cases he
    | some z=>
      rw [bn] at he;simp only [Option.some.injEq] at he;subst he;obtain ⟨bp,b6,z2⟩:=zero z bn;refine ⟨.tuple #[bp,.bool false],?_,by simp only [Rel,bh];exact ⟨_,rfl,_,_,rfl,z2,_,_,rfl,rfl,rfl⟩⟩;simp only [Instr.typeAssert,Sem.run_bind,hu,Result.andThen_ok];cases bR:aP.bg<;>first
       | exact absurd bR (q3 _)
       | (simp only [if_true,Sem.run_bind,b6,Result.andThen_ok];rfl)
def hb (P:Program) (call:dJ):Prop:=∀f args h v ab,call f args h=.val v ab->True
theorem QP {rd:Option Nat} {ay:Fr} {E:Env} {h ab:ah} {w:World} {call:dJ} (bH:eF P) (cU:gW P call) (dB:hb P call) {o:Oper} {ar:Nat} {r:bB} {a:Act} {v:V}
 (he:(fi P o).run call r h=.val v ab) (k:RegRel0 E ar r a) (s:bf ay E h w) {K:Act->World->Prop} {Q:Exit->Act->World->Prop}
 (dK:∀aw x w',E.le aw->Rel aw v x->bf ay aw ab w'->K (a.put o.dst x) w'):o.wpIn (ct rd) 0 P a w K Q:=by
 obtain ⟨dst,op,type,pos,after,guard⟩:=o;cases op<;>simp only [fi] at he<;>try (simp [di.none] at he;done)
 case move x=>
  simp only [a7.val.injEq] at he;obtain ⟨rfl,rfl⟩:=he;exact gu (m:=pure (a.eval x)) rfl (c8.plain s rfl (dA k x)) dK
 case assign x=>
  simp only [a7.val.injEq] at he;obtain ⟨rfl,rfl⟩:=he;exact gu (m:=pure (a.eval x)) rfl (c8.plain s rfl (dA k x)) dK
 case pick c x y=>
  have aC:=dA k c;generalize (bQ c).run r=Nu at he aC;cases Nu<;>simp only at he<;>try (cases he;done)
  rename_i t;simp only [a7.val.injEq] at he;obtain ⟨rfl,rfl⟩:=he;simp only [Rel] at aC;refine gu (m:=do pure (if <-asBool (a.eval c) then a.eval x else a.eval y)) (by simp only [execOp,bind_assoc,pure_bind]) (c8.plain (Z:=if t then a.eval x else a.eval y) s ?_ ?_) dK
  . rw [aC];rfl
  . cases t
    . exact dA k y
    . exact dA k x
 case alloc t=>
  cases au:a' P t with
  | none=>rw [au] at he;simp [di.none] at he
  | some aP=>
    rw [au] at he;simp only at he;cases bn:aP.zero with
    | none=>rw [bn] at he;simp [di.none] at he
    | some z=>
      rw [bn] at he;simp only at he;cases aQ:gq h z.cells with
      | none=>rw [aQ] at he;cases he
      | some aa=>
        rw [aQ] at he;simp only [gG,a7.val.injEq] at he;obtain ⟨rfl,rfl⟩:=he;obtain ⟨x,ai,o0,_⟩:=tc (P:=P) (E:=E) au bn w;obtain ⟨aw,g1,g2,g3,g4⟩:=F4 (P:=P) s o0 aQ t;have JM:(newRow t x.cells).run P w=.ok ⟨w.heap.size,0,none⟩ {w with heap:=w.heap.push (.cells x.cells t)}:=by simpa using g3
        have JN:bf ay aw aa {w with heap:=w.heap.push (.cells x.cells t)}:=by simpa using g4
        exact gu (m:=Instr.alloc t true (.tuple #[])) rfl ⟨.pointer (some ⟨w.heap.size,0,none⟩),_,aw,by simp only [Instr.alloc,Sem.run_bind,ai,Result.andThen_ok,newVar,JM,Sem.run_pure],g1,by simp only [Rel];exact ⟨_,g2,by simp⟩,JN⟩ dK
 case box t x=>
  obtain ⟨aF,he⟩:=jv he;cases aQ:gq h ((bQ x).run r).cells with
  | none=>rw [aQ] at he;cases he
  | some aa=>
    rw [aQ] at he;simp only [gG,a7.val.injEq] at he;obtain ⟨rfl,rfl⟩:=he;have az:=(dA k x).cells (fun e=>by rw [e] at aF;cases aF);obtain ⟨aw,g1,g2,g3,g4⟩:=F4 (P:=P) s az aQ t;have JM:(newRow t (a.eval x).cells).run P w=.ok ⟨w.heap.size,0,none⟩ {w with heap:=w.heap.push (.cells (a.eval x).cells t)}:=by simpa using g3
    have JN:bf ay aw aa {w with heap:=w.heap.push (.cells (a.eval x).cells t)}:=by simpa using g4
    exact gu (m:=Instr.box t (a.eval x)) rfl ⟨.pointer (some ⟨w.heap.size,0,none⟩),_,aw,by simp only [Instr.box,Sem.run_bind,newVar,JM,Result.andThen_ok,Sem.run_pure],g1,by simp only [Rel];exact ⟨_,g2,by simp⟩,JN⟩ dK
 case build t bj=>
  obtain ⟨ef,rfl⟩:=a7.iy he;clear he;obtain ⟨Z,fw,cC⟩:=aan (P:=P) (Gq k bj.toList) ef w;refine gu (m:=Instr.build t (bj.map fun (i,x)=>(i,a.eval x))) rfl (c8.plain (Z:=Z) s ?_ cC) dK;rw [Mj];exact fw
 case buildSlice t n bj=>
  refine gu (m:=Instr.buildSlice t n (bj.map fun (i,x)=>(i,a.eval x))) rfl ?_ dK;rw [Mj];exact aap s (Gq k bj.toList) he
 case load t x=>
  obtain ⟨ef,rfl⟩:=a7.iy he;clear he;obtain ⟨Y,eM,cC,_⟩:=Uj (P:=P) s (dA k x) ef;exact gu (m:=Instr.loadAt t (a.eval x)) rfl (c8.plain s eM cC) dK
 case store t x y=>
  cases cL:(sZ P t).run h ((bQ x).run r) ((bQ y).run r) with
  | none=>rw [cL] at he;cases he
  | some aa=>
    rw [cL] at he;simp only [gG,a7.val.injEq] at he;obtain ⟨rfl,rfl⟩:=he;obtain ⟨w',cV,hp⟩:=ann (P:=P) s (dA k x) (dA k y) cL;refine ⟨fun _ _=>trivial,?_⟩;rw [qi (by intro c h;cases h)];have:execOp a.eval ⟨dst,.store t x y,type,pos,after,guard⟩=(do Instr.storeAt t (a.eval x) (a.eval y);pure .skip):=rfl;rw [this,Sem.run_bind,cV];exact dK E undef w' (Env.le.refl E) (by simp [Rel]) hp
 case nilCheck x=>
  obtain ⟨ef,rfl⟩:=a7.iy he;clear he;have ai:=dA k x;generalize (bQ x).run r=xr at ef ai;have e6:∀X,Rel E xr X->(match X with
   | .pointer none | .nilIface | .nilFunc=>(runtimePanic .nilDeref:Sem Next)
   | .func (.method name) first captured=>
     match (first[0]? :Option Value) with
     | some .nilIface=>runtimePanic .nilDeref
     | some (.iface t w)=>do
       if (<-nilAhead ((<-program).types.size+Made.depth) t w name) != some false then
        unsupported (.noEntry "op/nilCheck.the method's receiver behind this interface value is a nil pointer, or cannot be seen to be none, and the arguments act or may panic (ledger 612)")
       pure (.value (.func (.method name) first captured))
     | _=>pure (.value (.func (.method name) first captured))
   | x=>pure (.value x))=pure (.value X)/\v=xr:=by
   intro X cp;cases xr<;>simp only [ur] at ef<;>try (cases ef;done)
   all_goals simp only [Option.some.injEq] at ef
   all_goals simp only [Rel] at cp
   . obtain ⟨p,_,rfl⟩:=cp;exact ⟨rfl,ef.symm⟩
   . rcases cp with ⟨_,_,rfl,_⟩ | ⟨_,_,_,_,_,rfl⟩<;>exact ⟨rfl,ef.symm⟩
   . obtain ⟨p,rfl,_⟩:=cp;exact ⟨rfl,ef.symm⟩
   . obtain ⟨_,p,rfl,_⟩:=cp;exact ⟨rfl,ef.symm⟩
  obtain ⟨aa,rfl⟩:=e6 _ ai;exact gu (m:=pure (a.eval x)) (by simp only [execOp];rw [pure_bind];exact aa) (c8.plain s rfl ai) dK
 case binOp op t x y u=>
  obtain ⟨ef,rfl⟩:=a7.iy he;clear he;obtain ⟨Z,fw,cC⟩:=aag (P:=P) (fm:=x) (h_:=y) ef (dA k x) (dA k y) w;exact gu rfl (c8.plain s fw cC) dK
 case unOp op t x=>
  obtain ⟨ef,rfl⟩:=a7.iy he;clear he;obtain ⟨Z,fw,cC⟩:=aoe (P:=P) ef (dA k x) w;exact gu (m:=Op.unary op (a.eval x)) rfl (c8.plain s fw cC) dK
 case convert t u x=>exact gu (m:=convert t u (a.eval x)) rfl (ab' s he (dA k x)) dK
 case makeInterface t x=>
  cases au:a' P t with
  | none=>rw [au] at he;simp [di.none] at he
  | some aP=>
    rw [au] at he;simp only at he;cases ae:Nat.beq (e9 aP.bg) 5 with
    | true=>rw [ae] at he;simp [di.none] at he
    | false=>
      rw [ae] at he;simp only [cond_false,a7.val.injEq] at he;obtain ⟨rfl,rfl⟩:=he;refine gu (m:=Instr.makeInterface t (a.eval x)) rfl (c8.plain (Z:=.iface t (a.eval x)) s ?_ ?_) dK
      . have hu:=fB au w;simp only [Instr.makeInterface,Sem.run_bind,hu,Result.andThen_ok];cases bR:aP.bg<;>first
         | rfl
         | (rw [bR] at ae;simp [e9] at ae)
      . simp only [Rel];exact ⟨_,rfl,dA k x⟩
 case makeFunc fn first eL=>
  cases fn<;>simp only at he<;>try (simp [di.none] at he;done)
  rename_i f;cases aB:(first.isEmpty&&!Nat.beq f dt) with
  | false=>
    rw [aB] at he;simp only [cond_false] at he;cases jz:(eL.isEmpty&&!Nat.beq f dt) with
    | false=>rw [jz] at he;simp [di.none] at he
    | true=>
      rw [jz] at he;simp only [cond_true,a7.val.injEq] at he;obtain ⟨rfl,rfl⟩:=he;simp only [Bool.and_eq_true,Bool.not_eq_true'] at jz;have Kq:f≠dt:=fun e=>by rw [e] at jz;exact absurd jz.2 (by decide)
      have Km:eL=#[]:=by simpa using jz.1
      subst Km;refine gu (m:=Instr.makeFunc (.func f) (first.map a.eval) #[]) (by simp [execOp]) (c8.plain s rfl ?_) dK;simp only [Rel];exact ⟨Kq,_,rfl,by rw [LM];simpa using qQ k first.toList⟩
  | true=>
    rw [aB] at he;simp only [cond_true,a7.val.injEq] at he;obtain ⟨rfl,rfl⟩:=he;simp only [Bool.and_eq_true,Bool.not_eq_true'] at aB;have Kq:f≠dt:=fun e=>by rw [e] at aB;exact absurd aB.2 (by decide)
    have Km:first=#[]:=by simpa using aB.1
    subst Km;refine gu (m:=Instr.makeFunc (.func f) #[] (eL.map a.eval)) (by simp [execOp]) (c8.plain s rfl ?_) dK;simp only [Rel];exact .inl ⟨Kq,_,rfl,by rw [LM];simpa using qQ k eL.toList⟩
 case makeSlice t l c=>exact gu (m:=Instr.makeSlice t (a.eval l) (a.eval c)) rfl (aki s (dA k l) (dA k c) he) dK
 case slice t x bC aq dV=>
  obtain ⟨ef,rfl⟩:=a7.iy he;clear he;obtain ⟨Z,fw,cC⟩:=am7 (P:=P) ef (dA k x) (Gn k bC) (Gn k aq) (Gn k dV) w;exact gu (m:=Instr.sliceAt t (a.eval x) (bC.map a.eval) (aq.map a.eval) (dV.map a.eval)) rfl (c8.plain s fw cC) dK
 case fieldAddr t x i=>
  obtain ⟨ef,rfl⟩:=a7.iy he;clear he;obtain ⟨Z,fw,cC⟩:=ac3 (P:=P) ef (dA k x) w;exact gu (m:=Instr.fieldAt t (a.eval x) i) rfl (c8.plain s fw cC) dK
 case field t x i=>
  obtain ⟨ef,rfl⟩:=a7.iy he;clear he;obtain ⟨Z,fw,cC⟩:=ac4 (P:=P) ef (dA k x) w;exact gu (m:=Instr.field t (a.eval x) i) rfl (c8.plain s fw cC) dK
 case indexAddr t x i=>
  obtain ⟨ef,rfl⟩:=a7.iy he;clear he;obtain ⟨Z,fw,cC⟩:=agQ (P:=P) ef (dA k x) (dA k i) w;exact gu (m:=Instr.indexAt t (a.eval x) (a.eval i)) rfl (c8.plain s fw cC) dK
 case index t x i=>
  obtain ⟨ef,rfl⟩:=a7.iy he;clear he;obtain ⟨Z,fw,cC⟩:=agS (P:=P) ef (dA k x) (dA k i) w;exact gu (m:=Instr.index t (a.eval x) (a.eval i)) rfl (c8.plain s fw cC) dK
 case range t x=>exact gu (m:=Instr.range t (a.eval x)) rfl (amh s (dA k x) he) dK
 case next it ze=>
  cases ze with
  | true=>exact gu (m:=Instr.next (a.eval it) true type) rfl (akK s (dA k it) he) dK
  | false=>exact gu (m:=Instr.next (a.eval it) false type) rfl (akI s (dA k it) he) dK
 case entry it=>exact gu (m:=Instr.entry (a.eval it)) rfl (acI s (dA k it) he) dK
 case lookup t x y ok=>
  obtain ⟨ef,rfl⟩:=a7.iy he;clear he;obtain ⟨Z,fw,cC⟩:=aka (P:=P) s (dA k x) (dA k y) ef;exact gu (m:=Instr.lookup t (a.eval x) (a.eval y) ok) rfl (c8.plain s fw cC) dK
 case mapEntry t m y=>exact gu (m:=Instr.mapEntry t (a.eval m) (a.eval y)) rfl (akk s (dA k m) (dA k y) he) dK
 case entryStore t m st x=>
  cases cL:tG h ((bQ m).run r) ((bQ st).run r) ((bQ x).run r) with
  | none=>rw [cL] at he;cases he
  | some aa=>
    rw [cL] at he;simp only [gG,a7.val.injEq] at he;obtain ⟨rfl,rfl⟩:=he;obtain ⟨w',cV,hp⟩:=acH (P:=P) (t:=t) s (dA k m) (dA k st) (dA k x) cL;refine ⟨fun _ _=>trivial,?_⟩;rw [qi (by intro c h;cases h)];have:execOp a.eval ⟨dst,.entryStore t m st x,type,pos,after,guard⟩=(do Instr.entryStore t (a.eval m) (a.eval st) (a.eval x);pure .skip):=rfl;rw [this,Sem.run_bind,cV];exact dK E undef w' (Env.le.refl E) (by simp [Rel]) hp
 case mapUpdate t m y x=>
  cases cL:(pt P t).run h ((bQ m).run r) ((bQ y).run r) ((bQ x).run r) with
  | none=>rw [cL] at he;cases he
  | some aa=>
    rw [cL] at he;simp only [gG,a7.val.injEq] at he;obtain ⟨rfl,rfl⟩:=he;obtain ⟨w',cV,hp⟩:=Xv (P:=P) s (dA k m) (dA k y) (dA k x) cL;refine ⟨fun _ _=>trivial,?_⟩;rw [qi (by intro c h;cases h)];have:execOp a.eval ⟨dst,.mapUpdate t m y x,type,pos,after,guard⟩=(do Instr.mapUpdate t (a.eval m) (a.eval y) (a.eval x);pure .skip):=rfl;rw [this,Sem.run_bind,cV];exact dK E undef w' (Env.le.refl E) (by simp [Rel]) hp
 case insert t m y x=>
  cases cL:(pt P t).run h ((bQ m).run r) ((bQ y).run r) ((bQ x).run r) with
  | none=>rw [cL] at he;cases he
  | some aa=>
    rw [cL] at he;simp only [gG,a7.val.injEq] at he;obtain ⟨rfl,rfl⟩:=he;obtain ⟨w',cV,hp⟩:=Xv (P:=P) s (dA k m) (dA k y) (dA k x) cL;refine ⟨fun _ _=>trivial,?_⟩;rw [qi (by intro c h;cases h)];have:execOp a.eval ⟨dst,.insert t m y x,type,pos,after,guard⟩=(do Instr.mapUpdate t (a.eval m) (a.eval y) (a.eval x);pure .skip):=rfl;rw [this,Sem.run_bind,cV];exact dK E undef w' (Env.le.refl E) (by simp [Rel]) hp
 case makeMap t x=>exact gu (m:=Instr.makeMap t (x.map a.eval)) rfl (akh s (Gn k x) he) dK
 case panic x=>
  exfalso;unfold Mi at he
  split at he<;>cases he
 case typeAssert x uX t ok=>
  cases au:a' P t with
  | none=>rw [au] at he;simp [di.none] at he
  | some aP=>
    rw [au] at he;simp only at he;cases ae:Nat.beq (e9 aP.bg) 5 with
    | true=>rw [ae] at he;simp [di.none] at he
    | false=>
      rw [ae] at he;simp only [cond_false] at he;obtain ⟨ef,rfl⟩:=a7.iy he;clear he;obtain ⟨Z,fw,cC⟩:=Z0 au ae (uX:=uX) (dA k x) ef w;exact gu (m:=Instr.typeAssert (a.eval x) uX t ok) rfl (c8.plain s fw cC) dK
 case extract x i=>
  have ai:=dA k x;generalize (bQ x).run r=xr at he ai;cases xr<;>simp only at he<;>try (cases he;done)
  obtain ⟨ef,rfl⟩:=a7.iy he;clear he;simp only [Rel] at ai;obtain ⟨arr,cp,az⟩:=ai;obtain ⟨y,a1,cC⟩:=az.get i v ef;refine gu (m:=Instr.extract (a.eval x) i) rfl (c8.plain (Z:=y) s ?_ cC) dK;rw [cp];have:arr[i]? =some y:=by simpa using a1
  simp only [Instr.extract,this,Sem.run_pure]
 case call c=>
  obtain ⟨callee,args,types⟩:=c;cases callee with
  | invoke _ _=>simp [r2,di.none] at he
  | builtin b=>
    simp only [r2] at he;obtain ⟨cs,hh⟩:∃cs,execOp a.eval ⟨dst,.call ⟨.builtin b,args,types⟩,type,pos,after,guard⟩=Go.builtin b types type cs (args.map a.eval):=by simp only [execOp,resolve,pure_bind,invoke];exact ⟨_,rfl⟩
    obtain ⟨m,hm,aF⟩:=aar (P:=P) (ty:=type) (cs:=cs) s (qQ k args.toList) he;refine gu (m:=m) ?_ aF dK;rw [hh,<-hm,LM]
  | value f=>
    simp only [r2] at he;have aB:=dA k f;generalize agm:(bQ f).run r=xp at he aB;cases xp<;>simp only [V.zx] at he<;>try (cases he;done)
    rotate_left
    . rename_i g cs;simp only [Rel] at aB;refine ⟨fun _ _=>trivial,?_⟩;rw [qi (by intro c h;cases h)];obtain ⟨aF,first,cp,az⟩:=aB;have pT:=bh.append az (qQ k args.toList);have pU:=cU.fn _ _ _ _ _ _ aF he E w _ pT s;have hex:execOp a.eval ⟨dst,.call ⟨.value f,args,types⟩,type,pos,after,guard⟩=callFunc g (first++args.map a.eval):=by
       simp only [execOp,resolve,cp,Deferred.ofValue,pure_bind,invoke];simp
      have e:first++args.map a.eval=(first.toList++args.toList.map a.eval).toArray:=by apply Array.ext';simp
      rw [hex,e];rcases pU with ⟨⟨fn,kh,ae⟩,aC⟩ | ⟨aw,x,w',aG,ao,ax,aL⟩
      case inr=>
       rw [aG];exact dK aw x w' ao ax aL
      rw [uN bH kh ae];refine ⟨fun h=>by simp at h,tB.2 (aC.mono fun e w' aA=>?_)⟩;obtain ⟨aw,x,rfl,ao,ax,aL⟩:=aA;exact dK aw x w' ao ax aL
    rename_i g cs;simp only [Rel] at aB;refine ⟨fun _ _=>trivial,?_⟩;rw [qi (by intro c h;cases h)];rcases aB with ⟨aF,eL,cp,az⟩ | ⟨aF,b,p,hh,af,cp⟩
    . have pT:=(qQ k args.toList).append az;have pU:=cU.fn _ _ _ _ _ _ aF he E w _ pT s;have hex:execOp a.eval ⟨dst,.call ⟨.value f,args,types⟩,type,pos,after,guard⟩=callFunc g (args.map a.eval++eL):=by
       simp only [execOp,resolve,cp,Deferred.ofValue,pure_bind,invoke];simp
      have e:args.map a.eval++eL=(args.toList.map a.eval++eL.toList).toArray:=by apply Array.ext';simp
      rw [hex,e];rcases pU with ⟨⟨fn,kh,ae⟩,aC⟩ | ⟨aw,x,w',aG,ao,ax,aL⟩
      case inr=>
       rw [aG];exact dK aw x w' ao ax aL
      rw [uN bH kh ae];refine ⟨fun h=>by simp at h,tB.2 (aC.mono fun e w' aA=>?_)⟩;obtain ⟨aw,x,rfl,ao,ax,aL⟩:=aA;exact dK aw x w' ao ax aL
    . subst aF hh;obtain ⟨kZ,tmps,assign,body,ao,ax⟩:=cU.XP _ _ _ _ _ _ he E w _ p (qQ k args.toList) s af;have hex:execOp a.eval ⟨dst,.call ⟨.value f,args,types⟩,type,pos,after,guard⟩=Instr.yield p.aW (args.map a.eval):=by
       simp only [execOp,resolve,cp,Deferred.ofValue,pure_bind,invoke];simp
      have e:args.map a.eval=(args.toList.map a.eval).toArray:=by apply Array.ext';simp
      rw [hex,e,ao];refine ⟨fun h=>by simp at h,RoundIn.mono ax fun e w' aA=>?_⟩;obtain ⟨aw,x,rfl,bD,b3,cc⟩:=aA;exact dK aw x w' bD b3 cc
end
section
variable {P:Program}
theorem JV {E:Env} {ar:Nat} {r:bB} {a:Act} (k:RegRel0 E ar r a) {all:Array Oper} {j:Nat} {g:Oper} {d:Nat} (a6:all[j]? =some g) (bb:g.dst=some d) (Sn:d<ar) (v8:d<=top):
 (∀b,T.get .bad (aj d) r=.bool b->yielded all a.tmps j=some b)/\(∀ag,T.get .bad (aj d) r=.tuple ag->yielded all a.tmps j=none):=by
 have aG:=k.av d v8;have aT:d<a.tmps.size:=by rw [k.size];exact Sn
 have he:a.tmps[d]? =some (a.tmps.getD d undef):=by simp [Array.getD_eq_getD_getElem?,aT]
 refine ⟨fun b ae=>?_,fun ag ae=>?_⟩
 . rw [ae] at aG;simp only [Rel] at aG;simp only [yielded,a6,Option.bind,bb,he,aG]
 . rw [ae] at aG;simp only [Rel] at aG;obtain ⟨arr,aG,_⟩:=aG;simp only [yielded,a6,Option.bind,bb,he,aG]
theorem QM {rd:Option Nat} {ay:Fr} {E:Env} {h ab:ah} {w:World} {call:dJ} (bH:eF P) (cU:gW P call) {o:Oper} {ar:Nat} {r:bB} {a:Act} {v:V} (hm:lQ o.op=true)
 (he:(fi P o).run call r h=.cM v ab) (k:RegRel0 E ar r a) (s:bf ay E h w) {K:Act->World->Prop} {Q:Exit->Act->World->Prop}
 (cO:∀aw x w',E.le aw->Rel aw v x->bf ay aw ab w'->Q (.panic (qd x)) a w'):o.wpIn (ct rd) 0 P a w K Q:=by
 obtain ⟨dst,op,type,pos,after,guard⟩:=o;cases op<;>simp only [lQ] at hm<;>try (cases hm;done)
 all_goals simp only [fi] at he
 case panic x=>
  have ai:=dA k x;generalize (bQ x).run r=xr at he ai;unfold Mi at he;cases xr<;>simp only at he<;>try (cases he;done)
  simp only [a7.cM.injEq] at he;obtain ⟨rfl,rfl⟩:=he;have BI:=ai;simp only [Rel] at ai;obtain ⟨Y,cp,eM⟩:=ai;refine ⟨fun _ _=>trivial,?_⟩;rw [qi (by intro c h;cases h)];have hex:(execOp a.eval ⟨dst,.panic x,type,pos,after,guard⟩).run P w=.halt (.panic (a.eval x)) w:=by simp only [execOp,cp,Instr.panic,Sem.run_bind];rfl
  rw [hex];exact cO E _ w (Env.le.refl E) BI s
 case call c=>
  obtain ⟨callee,args,types⟩:=c;cases callee<;>simp only at hm<;>try (cases hm;done)
  rename_i f;simp only [r2] at he;have aB:=dA k f;generalize agm:(bQ f).run r=xp at he aB;cases xp<;>simp only [V.zx] at he<;>try (cases he;done)
  rotate_left
  . rename_i g cs;simp only [Rel] at aB;refine ⟨fun _ _=>trivial,?_⟩;rw [qi (by intro c h;cases h)];obtain ⟨aF,first,cp,az⟩:=aB;have pT:=bh.append az (qQ k args.toList);obtain ⟨⟨fn,kh,ae⟩,aC⟩:=cU.cM _ _ _ _ _ _ aF he E w _ pT s;have hex:execOp a.eval ⟨dst,.call ⟨.value f,args,types⟩,type,pos,after,guard⟩=callFunc g (first++args.map a.eval):=by
     simp only [execOp,resolve,cp,Deferred.ofValue,pure_bind,invoke];simp
    have e:first++args.map a.eval=(first.toList++args.toList.map a.eval).toArray:=by apply Array.ext';simp
    rw [hex,e,uN bH kh ae];refine ⟨fun h=>by simp at h,tB.2 (aC.mono fun e w' aA=>?_)⟩;obtain ⟨aw,x,rfl,ao,ax,aL⟩:=aA;exact cO aw x w' ao ax aL
  rename_i g cs;simp only [Rel] at aB;refine ⟨fun _ _=>trivial,?_⟩;rw [qi (by intro c h;cases h)];rcases aB with ⟨aF,eL,cp,az⟩ | ⟨aF,b,p,hh,af,cp⟩
  . have pT:=(qQ k args.toList).append az;obtain ⟨⟨fn,kh,ae⟩,aC⟩:=cU.cM _ _ _ _ _ _ aF he E w _ pT s;have hex:execOp a.eval ⟨dst,.call ⟨.value f,args,types⟩,type,pos,after,guard⟩=callFunc g (args.map a.eval++eL):=by
     simp only [execOp,resolve,cp,Deferred.ofValue,pure_bind,invoke];simp
    have e:args.map a.eval++eL=(args.toList.map a.eval++eL.toList).toArray:=by apply Array.ext';simp
    rw [hex,e,uN bH kh ae];refine ⟨fun h=>by simp at h,tB.2 (aC.mono fun e w' aA=>?_)⟩;obtain ⟨aw,x,rfl,ao,ax,aL⟩:=aA;exact cO aw x w' ao ax aL
  . subst aF;exact absurd he (cU.XR _ _ _ _)
def nD (ay:Fr) (E:Env) (ar:Nat) (K:Act->World->Prop) (Q:Exit->Act->World->Prop):oC->Prop
 | .ok r h=>∀aw bs w',E.le aw->fs aw ar r bs->bf ay aw h w'->K bs w'
 | .cM v r h=>∀aw bs w' x,E.le aw->fs aw ar r bs->Rel aw v x->bf ay aw h w'->Q (.panic (qd x)) bs w'
 | .fail=>False
theorem nD.up {ay:Fr} {E aw:Env} (h:E.le aw) {ar:Nat} {K:Act->World->Prop} {Q:Exit->Act->World->Prop} {x:oC} (k:nD ay E ar K Q x):nD ay aw ar K Q x:=by
 cases x with
 | ok r bk=>exact fun bL a w ad=>k bL a w (h.trans ad)
 | cM v r bk=>exact fun bL a w x ad=>k bL a w x (h.trans ad)
 | fail=>exact k
theorem U9 {rd:Option Nat} {ay:Fr} {E:Env} {h:ah} {w:World} {call:dJ} (bH:eF P) (cU:gW P call) (dB:hb P call) {all:Array Oper} {i:Nat} {o:Oper} (aq:all[i]? =some o) {ar:Nat} {r:bB} {a:Act}
 (bb:eW ar o.dst=true) (k:fs E ar r a) (s:bf ay E h w) {K:Act->World->Prop} {Q:Exit->Act->World->Prop} (hw:Region.wanted o (yielded all a.tmps)=true)
 (af:nD ay E ar K Q (Gm (lQ o.op) (fi P o) (fK o.dst) call r h)):wpOpIn (ct rd) 0 P all Q i K a w:=by
 simp only [wpOpIn,aq,hw,if_true];unfold Gm at af;cases aX:(fi P o).run call r h with
 | fail=>rw [aX] at af;exact af.elim
 | val v aa=>
   rw [aX] at af;exact QP bH cU dB aX k.toRegRel0 s fun aw x w' ao ax aL=>af aw _ w' ao ((k.mono ao).put bb ax) aL
 | cM v aa=>
   rw [aX] at af;simp only at af;cases hm:lQ o.op with
   | false=>rw [hm] at af;exact af.elim
   | true=>
     rw [hm] at af;exact QM bH cU hm aX k.toRegRel0 s fun aw x w' ao ax aL=>af aw a w' x ao (k.mono ao) ax aL
theorem Xu {rd:Option Nat} {ay:Fr} {E:Env} {h:ah} {w:World} {all:Array Oper} {i:Nat} {o:Oper} (aq:all[i]? =some o) {ar:Nat} {r:bB} {a:Act}
 (bb:eW ar o.dst=true) (k:fs E ar r a) (s:bf ay E h w) {K:Act->World->Prop} {Q:Exit->Act->World->Prop} (hw:Region.wanted o (yielded all a.tmps)=false)
 (af:nD ay E ar K Q (.ok ((fK o.dst).run r (.tuple [])) h)):wpOpIn (ct rd) 0 P all Q i K a w:=by
 simp only [wpOpIn,aq,hw,Bool.false_eq_true,if_false];exact ⟨fun _ _=>trivial,af E _ w (Env.le.refl E) (k.put bb (by simp only [Rel];exact ⟨#[],rfl,rfl⟩)) s⟩
theorem Gl {rd:Option Nat} {ay:Fr} {E:Env} {h:ah} {w:World} {call:dJ} (bH:eF P) (cU:gW P call) (dB:hb P call) {all:Array Oper} {i:Nat} {o:Oper} (aq:all[i]? =some o) {ar:Nat} {r:bB} {a:Act}
 (bb:eW ar o.dst=true) (k:fs E ar r a) (s:bf ay E h w) {K:Act->World->Prop} {Q:Exit->Act->World->Prop}
 (af:nD ay E ar K Q ((zz P ar all o).run call r h)):wpOpIn (ct rd) 0 P all Q i K a w:=by
 unfold zz at af;cases aF:o.guard with
 | none=>
   rw [aF] at af;exact U9 bH cU dB aq bb k s (by simp [Region.wanted,aF]) af
 | some p3=>
   obtain ⟨j,want⟩:=p3;rw [aF] at af;simp only at af;cases a6:all[j]? with
   | none=>rw [a6] at af;exact af.elim
   | some g=>
     rw [a6] at af;simp only at af;cases kF:g.dst with
     | none=>rw [kF] at af;exact af.elim
     | some d=>
       rw [kF] at af;simp only at af;cases aC:(Nat.blt d ar&&Nat.ble d top) with
       | false=>rw [aC] at af;exact af.elim
       | true=>
         rw [aC] at af;simp only [cond_true,R3,oN] at af;simp only [Bool.and_eq_true,Nat.blt_eq,Nat.ble_eq] at aC;obtain ⟨g1,g2⟩:=JV k.toRegRel0 a6 kF aC.1 aC.2;cases ba:T.get .bad (aj d) r<;>rw [ba] at af<;>simp only at af<;>try (exact af.elim)
         . rename_i b;have a1:=g1 b ba;cases ae:(bif want then b else !b) with
           | true=>
             rw [ae] at af;simp only [cond_true] at af;refine U9 bH cU dB aq bb k s ?_ af;simp only [Region.wanted,aF,a1];cases want<;>cases b<;>simp_all
           | false=>
             rw [ae] at af;simp only [cond_false] at af;refine Xu aq bb k s ?_ af;simp only [Region.wanted,aF,a1];cases want<;>cases b<;>simp_all
         . rename_i ag;have a1:=g2 ag ba;refine Xu aq bb k s ?_ af;simp only [Region.wanted,aF,a1];rfl
theorem lo.list {E:Env} {v:V} {ds:List Deferred} (k:lo E v ds):nw E v.list ds:=by
 cases v<;>first
  | exact k
theorem alu {rd:Option Nat} {ay:Fr} {E:Env} {h:ah} {w:World} {call:dJ} (bH:eF P) (cU:gW P call) (dB:hb P call) {all:Array Oper} {i:Nat} {o:Oper} (aq:all[i]? =some o) {ar:Nat} {r:bB} {a:Act}
 (aG:rd=none\/L2 o=true) (k:fs E ar r a) (s:bf ay E h w) {K:Act->World->Prop} {Q:Exit->Act->World->Prop}
 (af:nD ay E ar K Q ((Gk P ar all o).run call r h)):wpOpIn (ct rd) 0 P all Q i K a w:=by
 unfold Gk at af;cases bb:eW ar o.dst with
 | false=>rw [bb] at af;exact af.elim
 | true=>
   rw [bb] at af;simp only [cond_true] at af;obtain ⟨dst,op,type,pos,after,guard⟩:=o;cases op with
   | defer c=>
     rcases aG with rfl | aG
     case inr=>cases aG
     simp only at af;cases guard with
     | some _=>exact af.elim
     | none=>
       simp only at af;obtain ⟨callee,args,types⟩:=c;simp only [QY] at af;cases callee<;>simp only at af<;>try (exact af.elim)
       rename_i f;unfold QZ at af;have aB:=dA k.toRegRel0 f;generalize (bQ f).run r=xp at af aB;cases xp<;>simp only at af<;>try (exact af.elim)
       rename_i g cs;cases a1:Nat.beq g dt with
       | true=>rw [a1] at af;exact af.elim
       | false=>
         rw [a1] at af;simp only [cond_false] at af;have E0:g≠dt:=fun e=>by rw [e] at a1;exact absurd a1 (by decide)
         simp only [Rel] at aB;rcases aB with ⟨_,eL,cp,az⟩ | ⟨aF,_⟩
         case inr=>exact absurd aF E0
         simp only [wpOpIn,aq,Region.wanted,if_true];refine ⟨fun _ _=>trivial,?_⟩;have hex:((Oper.mk dst (.defer ⟨.value f,args,types⟩) type pos after none).semAt (ct none).round a.eval).run P w=.ok (.defer {target:=.fn (.func g) eL,args:=#[]++args.map a.eval}) w:=by simp only [Oper.semAt_none,execOp,resolve,cp,Deferred.ofValue,pure_bind];rfl
         rw [hex];refine af E _ w (Env.le.refl E) (fs.put ?_ bb (by simp only [Rel];exact ⟨#[],rfl,rfl⟩)) s;refine ⟨⟨k.size,fun t au=>?_⟩,?_⟩
         rotate_left
         . rw [T.h5,if_pos rfl];simp only [lo,nw];refine ⟨_,_,rfl,⟨E0,eL,rfl,?_⟩,k.defers.list⟩;have:=(qQ k.toRegRel0 args.toList).append az;simpa using this
         . rw [T.h5,if_neg (fun e=>w1 au e.symm)];exact k.av t au
   | binOp op t x y u=>
     simp only at af;cases guard with
     | some g=>exact Gl bH cU dB aq bb k s af
     | none=>
       simp only at af;cases lE:w6 P op t with
       | none=>rw [lE] at af;exact Gl bH cU dB aq bb k s af
       | some neg=>
         rw [lE] at af;simp only [VK] at af;cases aA:g' h ((bQ x).run r) ((bQ y).run r) with
         | none=>rw [aA] at af;exact Gl bH cU dB aq bb k s af
         | some b=>
           rw [aA] at af;simp only [wpOpIn,aq,Region.wanted,if_true];obtain ⟨Z,fw,cC⟩:=VI (P:=P) (fm:=x) (h_:=y) s lE aA (dA k.toRegRel0 x) (dA k.toRegRel0 y);exact gu rfl (c8.plain s fw cC) fun aw v w' ao ax aL=>af aw _ w' ao ((k.mono ao).put bb ax) aL
   | _=>exact Gl bH cU dB aq bb k s af
theorem U' {rd:Option Nat} {ay:Fr} {call:dJ} (bH:eF P) (cU:gW P call) (dB:hb P call) {all:Array Oper} {ar:Nat} {Q:Exit->Act->World->Prop}:∀(l:List Oper) (i:Nat),(∀j,l[j]? =all[i+j]?)->(rd=none\/∀o ∈ l,L2 o=true)->
 ∀(E:Env) (r:bB) (h:ah) (a:Act) (w:World),nD ay E ar (Q .normal) Q ((Cl P ar all l).run call r h)->fs E ar r a->bf ay E h w->
 wpOpsIn (ct rd) 0 P all Q (List.range' i l.length) a w
 | [],i,_,_,E,r,h,a,w,af,k,s=>by simp only [Cl] at af;simp only [List.length_nil,List.range'_zero,wpOpsIn];exact af E a w (Env.le.refl E) k s
 | o::os,i,az,aG,E,r,h,a,w,af,k,s=>by
   simp only [Cl,Ww] at af;have aq:all[i]? =some o:=by have:=az 0;simpa using this.symm
   rw [List.length_cons,List.range'_succ,wpOpsIn_cons];refine alu bH cU dB aq (aG.imp id fun h=>h o (by simp)) k s ?_;cases aa:(Gk P ar all o).run call r h with
   | fail=>rw [aa] at af;exact af
   | cM v bD qY=>rw [aa] at af;exact af
   | ok bD qY=>
     rw [aa] at af;simp only at af;intro aw bs w' ao ax aL;refine U' bH cU dB os (i+1) (fun j=>?_) (aG.imp id fun h cb hD=>h cb (by simp [hD])) aw bD qY bs w' (af.up ao) ax aL;have:=az (j+1);simp only [List.getElem?_cons_succ] at this;rw [this];congr 1;omega
end
theorem Rq {a b:V} (h:En a b=true):a=b:=by
 cases a<;>cases b<;>simp only [En] at h<;>first
  | rfl
  | (cases h;done)
  | (rename_i x y;cases x<;>cases y<;>simp_all;done)
  | (rename_i k x l y
     simp only [Bool.and_eq_true] at h;have aa:=tH h.1;have ad:=h.2;rw [kY,beq_iff_eq] at ad;rw [aa,ad];done)
  | (rw [vs,beq_iff_eq] at h;rw [h];done)
  | (simp only [Bool.and_eq_true,Nat.beq_eq] at h
     obtain ⟨aa,ad,aH,bt⟩:=h;rw [aO.kY aa,ad,aH,bt];done)
  | (simp only [Bool.and_eq_true,Nat.beq_eq] at h
     rw [aO.kY h.1,h.2];done)
  | (rw [aO.kY h];done)
  | (simp only [Bool.and_eq_true,Nat.beq_eq,List.isEmpty_iff] at h
     obtain ⟨aa,ad,aH⟩:=h;rw [aa,ad,aH];done)
  | (simp only [Bool.and_eq_true,List.isEmpty_iff] at h
     rw [h.1,h.2];done)
theorem JE {f:V->V->Bool} (aB:∀a b,f a b=true->a=b):∀{a b:List V},yh f a b=true->a=b
 | [],[],_=>rfl
 | [],_::_,h=>by cases h
 | _::_,[],h=>by cases h
 | a::x,b::y,h=>by
   simp only [yh] at h;cases aa:f a b with
   | false=>rw [aa] at h;cases h
   | true=>
     rw [aa] at h;rw [aB a b aa,JE aB h]
theorem aae {c x:Bool} (h:(bif c then x else false)=true):c=true/\x=true:=by
 cases c with
 | false=>cases h
 | true=>exact ⟨rfl,h⟩
theorem Rr:∀(d:Nat) (a b:V),vH d a b=true->a=b
 | 0,a,b,h=>Rq h
 | d+1,a,b,h=>by
   have bd:=Rr d;cases a<;>simp only [vH] at h<;>first
    | exact Rq h
    | (cases b<;>simp only at h<;>first
        | (cases h;done)
        | rfl
        | (rw [JE bd h];done)
        | (obtain ⟨aa,ad⟩:=aae h
           rw [Nat.beq_eq] at aa;rw [aa]
           first
            | rw [JE bd ad]
            | rw [bd _ _ ad]))
theorem JF {a b:V} (h:A5 a b=true):a=b:=Rr 5 a b h
theorem AK (m i:Nat):fT m i=m.testBit i:=by
 rw [Nat.testBit_eq_decide_div_mod_eq];unfold fT;have e:Nat.mod (Nat.shiftRight m i) 2=m / 2 ^ i % 2:=by show (m >>> i) % 2=_;rw [Nat.shiftRight_eq_div_pow]
 rw [e,Bool.eq_iff_iff,Nat.beq_eq,decide_eq_true_eq]
theorem LN {dS:List Nat} {i:Nat}:∀{es:List Edge},fT (uq dS es) i=true->∃e ∈ es,vt e=true/\(e.on=i\/fT ((dS[e.on]?).getD 0) i=true)
 | [],h=>by simp [uq,AK] at h
 | e::es,h=>by
   simp only [uq] at h;cases ae:vt e with
   | false=>
     rw [ae] at h;obtain ⟨c9,aa,ad⟩:=LN (es:=es) h;exact ⟨c9,by simp [aa],ad⟩
   | true=>
     rw [ae] at h;simp only [cond_true,AK] at h;have ab:((1 <<< e.on||| (dS[e.on]?).getD 0)||| uq dS es).testBit i=true:=h;rw [Nat.testBit_or,Nat.testBit_or,Bool.or_eq_true,Bool.or_eq_true] at ab;rcases ab with (aa | aa) | aa
     . refine ⟨e,by simp,ae,.inl ?_⟩;rw [Nat.testBit_shiftLeft] at aa;simp only [Bool.and_eq_true,decide_eq_true_eq] at aa;have:=aa.2;rw [Nat.testBit_one_eq_true_iff_self_eq_zero] at this;omega
     . exact ⟨e,by simp,ae,.inr (by rw [AK];exact aa)⟩
     . rw [<-AK] at aa;obtain ⟨c9,ao,ax⟩:=LN (es:=es) aa;exact ⟨c9,by simp [ao],ax⟩
def qt (ops:Array Oper) (L:Nat->Prop):Prop:=∀k o e,L k->ops[k]? =some o->e ∈ o.after.toList->vt e=true->L e.on
theorem B7 {ops:Array Oper} {L:Nat->Prop} (vP:qt ops L):∀(os:List Oper) (dS:List Nat),(∀j,os[j]? =ops[dS.length+j]?)->
 (∀k m i,dS[k]? =some m->fT m i=true->L k->L i)->∀k m i,(eI dS os)[k]? =some m->fT m i=true->L k->L i
 | [],dS,_,h,k,m,i,aD,ae,eY=>h k m i aD ae eY
 | o::os,dS,oX,h,k,m,i,aD,ae,eY=>by
   simp only [eI] at aD;refine B7 vP os (dS++[uq dS o.after.toList]) (fun j=>?_) (fun k m i aD ae eY=>?_) k m i aD ae eY
   . have:=oX (j+1);simp only [List.getElem?_cons_succ] at this;rw [this];congr 1;simp;omega
   . by_cases aT:k<dS.length
     . rw [List.getElem?_append_left aT] at aD;exact h k m i aD ae eY
     . rw [List.getElem?_append_right (by omega)] at aD;have Bm:k-dS.length=0:=by
        cases bn:k-dS.length with
        | zero=>rfl
        | succ n=>rw [bn] at aD;simp at aD
       rw [Bm] at aD;simp only [List.getElem?_cons_zero,Option.some.injEq] at aD;subst aD;have E4:k=dS.length:=by omega
       have aX:ops[k]? =some o:=by have:=oX 0;simp only [List.getElem?_cons_zero,Nat.add_zero] at this;rw [E4];exact this.symm
       obtain ⟨e,he,J9,hR⟩:=LN ae;have R_:=vP k o e eY aX he J9;rcases hR with rfl | hR
       . exact R_
       . cases hm:dS[e.on]? with
         | none=>rw [hm] at hR;simp [AK] at hR
         | some cj=>rw [hm] at hR;exact h e.on cj i hm hR R_
theorem qo {f:Nat->Nat->Oper->Bool}:∀{k:Nat} {ms:List Nat} {os:List Oper},nt f k ms os=true->∀j o,os[j]? =some o->∃m,ms[j]? =some m/\f (k+j) m o=true
 | _,_,[],_,j,o,h=>by simp at h
 | _,[],_::_,h,_,_,_=>by cases h
 | k,m::ms,cb::os,h,j,o,aX=>by
   simp only [nt,Bool.and_eq_true] at h;cases j with
   | zero=>simp only [List.getElem?_cons_zero,Option.some.injEq] at aX;subst aX;exact ⟨m,rfl,h.1⟩
   | succ j=>
     obtain ⟨cj,aa,ad⟩:=qo h.2 j o (by simpa using aX);exact ⟨cj,by simpa using aa,by rw [show k + (j+1)=k+1+j from by omega];exact ad⟩
theorem NJ {f:Nat->Nat->Oper->Bool}:∀{k:Nat} {ms:List Nat} {os:List Oper},ms.length=os.length->(∀j m o,ms[j]? =some m->os[j]? =some o->f (k+j) m o=true)->nt f k ms os=true
 | _,[],[],_,_=>rfl
 | _,[],_::_,h,_=>by simp at h
 | _,_::_,[],h,_=>by simp at h
 | k,m::ms,o::os,h,aB=>by simp only [nt,Bool.and_eq_true];refine ⟨aB 0 m o rfl rfl,NJ (by simpa using h) fun j cj cb aa ad=>?_⟩;have:=aB (j+1) cj cb (by simpa using aa) (by simpa using ad);rw [show k+1+j=k + (j+1) from by omega];exact this
theorem LO:∀(os:List Oper) (dS:List Nat),(eI dS os).length=dS.length+os.length
 | [],dS=>rfl
 | o::os,dS=>by simp [eI,LO os];omega
section
variable {P:Program}
theorem QO {o:Oper} {call:dJ} {r:bB} {h ab:ah} {v:V} (aA:e0 P o.op=false) (he:(fi P o).run call r h=.val v ab):ab=h:=by
 obtain ⟨dst,op,type,pos,after,guard⟩:=o;cases op<;>simp only [e0] at aA<;>try (cases aA;done)
 all_goals simp only [fi] at he
 case convert s d x=>
  unfold qJ at he;cases aM:a' P s with
  | none=>rw [aM] at he;cases he
  | some uP=>
    cases bb:a' P d with
    | none=>rw [bb] at aA;cases aA
    | some oH=>
      rw [aM,bb] at he;rw [bb] at aA;simp only at he aA;cases hu:oH.bg with
      | int k=>
        rw [hu] at he;obtain ⟨bo,n,_,aa⟩:=sO he;simp only [a7.val.injEq] at aa;exact aa.2.symm
      | slice e=>rw [hu] at aA;cases aA
      | string=>
        rw [hu] at he;simp only at he;have other:∀x:V,(match x with
         | .str s=>a7.val (.str s) h
         | .int _ n=>.val (.str (Utf8.encode n).data.toList) h
         | _=>.fail)=.val v ab->ab=h:=by
         intro x he;cases x<;>simp only at he<;>first
          | (cases he;done)
          | (simp only [a7.val.injEq] at he;exact he.2.symm)
        cases Fl:uP.bg with
        | slice e=>
          rw [Fl] at he;simp only at he;cases cq:a' P e with
          | none=>rw [cq] at he;cases he
          | some a_=>
            rw [cq] at he;simp only at he;have anq:∀b off len,uT b off len h=.val v ab->ab=h:=by
             intro b off len he;unfold uT at he;cases aF:h.get b<;>rw [aF] at he<;>simp only [b9.pn] at he<;>try (cases he;done)
             all_goals
              obtain ⟨_,ad⟩:=jv he;cases agc:ov (k0 _ off len)<;>rw [agc] at ad<;>first
               | (cases ad;done)
               | (simp only [a7.val.injEq] at ad;exact ad.2.symm)
            cases eH:a_.bg with
            | int BV=>
              rw [eH] at he;cases BV<;>simp only at he<;>try (cases he;done)
              simp only [tD] at he;cases ai:(bQ x).run r<;>rw [ai] at he<;>simp only at he<;>first
               | (cases he;done)
               | exact anq _ _ _ he
               | (simp only [a7.val.injEq] at he;exact he.2.symm)
            | _=>rw [eH] at he;cases he
        | _=>rw [Fl] at he;exact other _ he
      | _=>rw [hu] at he;cases he
 case call c=>
  obtain ⟨callee,args,types⟩:=c;cases callee<;>simp only at aA<;>try (cases aA;done)
  rename_i b;simp only [r2] at he;cases b<;>simp only at aA<;>try (cases aA;done)
  . simp only [qH] at he;cases fx:types.toList with
    | nil=>rw [fx] at he;simp [f_.none] at he
    | cons t cJ=>
      cases cJ with
      | cons _ _=>rw [fx] at he;simp [f_.none] at he
      | nil=>
        rw [fx] at he;simp only at he;cases au:a' P t with
        | none=>rw [au] at he;simp [f_.none] at he
        | some aP=>
          rw [au] at he;rw [fx] at aA;simp only [Lq,au] at aA;simp only [aA,cond_false] at he
          split at he
          . exact (a7.iy he).2
          . cases he
  . exact (a7.iy he).2
  . exact (a7.iy he).2
 case move=>simp only [a7.val.injEq] at he;exact he.2.symm
 case assign=>simp only [a7.val.injEq] at he;exact he.2.symm
 case pick c a b=>
  split at he
  . simp only [a7.val.injEq] at he;exact he.2.symm
  . cases he
 case makeFunc fn first eL=>
  cases fn<;>simp only at he<;>try (simp [di.none] at he;done)
  rename_i f;cases aB:(first.isEmpty&&!Nat.beq f dt)<;>rw [aB] at he
  . simp only [cond_false] at he;cases jz:(eL.isEmpty&&!Nat.beq f dt)<;>rw [jz] at he
    . simp [di.none] at he
    . simp only [cond_true,a7.val.injEq] at he;exact he.2.symm
  . simp only [cond_true,a7.val.injEq] at he;exact he.2.symm
 case typeAssert x uX t ok=>
  cases au:a' P t with
  | none=>rw [au] at he;simp [di.none] at he
  | some aP=>
    rw [au] at he;simp only at he;cases ae:Nat.beq (e9 aP.bg) 5<;>rw [ae] at he
    . exact (a7.iy he).2
    . simp [di.none] at he
 case makeInterface t x=>
  cases au:a' P t with
  | none=>rw [au] at he;simp [di.none] at he
  | some aP=>
    rw [au] at he;simp only at he;cases ae:Nat.beq (e9 aP.bg) 5<;>rw [ae] at he
    . simp only [cond_false,a7.val.injEq] at he;exact he.2.symm
    . simp [di.none] at he
 case extract x i=>
  split at he
  . exact (a7.iy he).2
  . cases he
 all_goals exact (a7.iy he).2
theorem a7.wZ {h ab:ah} {x:Option V} {v:V} (he:a7.of h x=.val v ab) (H:ah):a7.of H x=.val v H:=by rw [(a7.iy he).1];rfl
theorem QN {o:Oper} {call:dJ} {r:bB} {h ab:ah} {v:V} (aA:e0 P o.op=false) (az:looks o.op=false) (he:(fi P o).run call r h=.val v ab) (H:ah):(fi P o).run call r H=.val v H:=by
 obtain ⟨dst,op,type,pos,after,guard⟩:=o;cases op<;>simp only [e0] at aA<;>try (cases aA;done)
 all_goals simp only [looks] at az<;>try (cases az;done)
 all_goals simp only [fi] at he ⊢
 case call c=>
  obtain ⟨callee,args,types⟩:=c;cases callee<;>simp only at aA<;>try (cases aA;done)
  rename_i b;simp only [r2] at he ⊢;cases b<;>simp only at aA<;>try (cases aA;done)
  . simp only [qH] at he ⊢;cases fx:types.toList with
    | nil=>rw [fx] at he;simp [f_.none] at he
    | cons t cJ=>
      cases cJ with
      | cons _ _=>rw [fx] at he;simp [f_.none] at he
      | nil=>
        rw [fx] at he;simp only at he ⊢;cases au:a' P t with
        | none=>rw [au] at he;simp [f_.none] at he
        | some aP=>
          rw [au] at he;rw [fx] at aA;simp only [Lq,au] at aA;simp only [aA,cond_false] at he ⊢
          split at he
          . exact a7.wZ he H
          . cases he
  . exact a7.wZ he H
  . exact a7.wZ he H
 case move=>simp only [a7.val.injEq] at he;rw [he.1]
 case assign=>simp only [a7.val.injEq] at he;rw [he.1]
 case pick c a b=>
  split at he
  . simp only [a7.val.injEq] at he;rw [he.1]
  . cases he
 case makeFunc fn first eL=>
  cases fn<;>simp only at he ⊢<;>try (simp [di.none] at he;done)
  rename_i f;cases aB:(first.isEmpty&&!Nat.beq f dt)<;>rw [aB] at he
  . simp only [cond_false] at he ⊢;cases jz:(eL.isEmpty&&!Nat.beq f dt)<;>rw [jz] at he
    . simp [di.none] at he
    . simp only [cond_true,a7.val.injEq] at he ⊢;exact ⟨he.1,trivial⟩
  . simp only [cond_true,a7.val.injEq] at he ⊢;exact ⟨he.1,trivial⟩
 case typeAssert x uX t ok=>
  cases au:a' P t with
  | none=>rw [au] at he;simp [di.none] at he
  | some aP=>
    rw [au] at he;simp only at he ⊢;cases ae:Nat.beq (e9 aP.bg) 5<;>rw [ae] at he
    . exact a7.wZ he H
    . simp [di.none] at he
 case makeInterface t x=>
  cases au:a' P t with
  | none=>rw [au] at he;simp [di.none] at he
  | some aP=>
    rw [au] at he;simp only at he ⊢;cases ae:Nat.beq (e9 aP.bg) 5<;>rw [ae] at he
    . simp only [cond_false,a7.val.injEq] at he ⊢;exact ⟨he.1,trivial⟩
    . simp [di.none] at he
 case extract x i=>
  split at he
  . exact a7.wZ he H
  . cases he
 all_goals exact a7.wZ he H
end
section
variable {P:Program}
def H6 (P:Program) (E:Env) (m:Sem Value) (v:V) (h ab:ah):Prop:=
 ∃k,ab=h.new k/\True/\∀w,∃X c7,m.run P w=.ok X {w with heap:=w.heap.push c7}/\
  ∀aw,E.le aw->aw (aj h.next)=some ⟨w.heap.size,0,0⟩->Rel aw v X/\∀B,B<=w.heap.size->hx B aw {w with heap:=w.heap.push c7} (aj h.next) k
theorem F3 {E:Env} {h ab:ah} {ag:List V} {l:List Value} (az:bh E ag l) (he:gq h ag=some ab) (t:TypeId):
 ∃k,ab=h.new k/\True/\∀w,(newRow t l.toArray).run P w=.ok ⟨w.heap.size,0,none⟩ {w with heap:=w.heap.push (.cells l.toArray t)}/\
  ∀aw,E.le aw->aw (aj h.next)=some ⟨w.heap.size,0,0⟩->∀B,B<=w.heap.size->hx B aw {w with heap:=w.heap.push (.cells l.toArray t)} (aj h.next) k:=by
 unfold gq at he;obtain ⟨aC,he⟩:=ey he;rw [Nat.ble_eq] at aC;cases he;refine ⟨_,rfl,trivial,fun w=>⟨by simp [newRow],fun aw hle dN B dc=>?_⟩⟩;have:=ED (bh.mono hle _ _ az) aC #[]
 rw [Array.append_empty] at this;exact ⟨aC,_,_,t,(0,0),dN,dc,by simp,.inr (Nat.le_refl _),fun _=>rfl,fun h=>absurd rfl h,this⟩
theorem aaq {E:Env} {h ab:ah} {t:TypeId} {n:Nat} {bj:List (Nat × V)} {g_:List (Nat × Value)} {v:V} (af:rS E bj g_) (he:(vv P t n).run bj h=.val v ab):
 H6 P E (Instr.buildSlice t n g_.toArray) v h ab:=by
 unfold vv at he;cases au:a' P t with
 | none=>rw [au] at he;cases he
 | some aP=>
   rw [au] at he;simp only at he;have hu:=fB au;cases bR:aP.bg with
   | slice e=>
     rw [bR] at he hu;simp only at he;cases cq:a' P e with
     | none=>rw [cq] at he;cases he
     | some a_=>
       rw [cq] at he;simp only at he;cases bn:a_.zero with
       | none=>rw [bn] at he;cases he
       | some z=>
         rw [bn] at he;simp only at he;cases aC:(Nat.ble (n * a_.size) 1000000&&Nat.beq z.cells.length a_.size) with
         | false=>rw [aC] at he;cases he
         | true=>
           rw [aC] at he;simp only [cond_true] at he;simp only [Bool.and_eq_true,Nat.ble_eq,Nat.beq_eq] at aC;cases aB:mH (fun i=>some (i * a_.size,a_.size)) (hI z.cells n) bj with
           | none=>rw [aB] at he;cases he
           | some cs=>
             rw [aB] at he;simp only at he;cases aQ:gq h cs with
             | none=>rw [aQ] at he;cases he
             | some aa=>
               rw [aQ] at he;simp only [a7.val.injEq] at he;obtain ⟨rfl,rfl⟩:=he;obtain ⟨x,ai,o0,o1⟩:=tc (P:=P) (E:=E) cq bn ⟨#[],fun _ _=>0,0,default,#[]⟩;have sw:x.cells.size=a_.size:=by rw [o1,aC.2]
               have sr:=zJ o0 n;rw [sw] at sr;obtain ⟨b,jy,mL⟩:=A6 (a:=(Array.range (n * a_.size)).map (x.cells[· % x.cells.size]!)) af (by rw [sw];exact sr) aB;obtain ⟨k,g1,g2,g3⟩:=F3 (P:=P) mL aQ e;refine ⟨k,g1,g2,fun w=>⟨.slice (some ⟨w.heap.size,0,none⟩) n n,.cells b e,?_,fun aw hle dN=>⟨?_,?_⟩⟩⟩
               . have wi:¬16777216<n * a_.size:=by omega
                 have kE:(newRow e b).run P w=.ok ⟨w.heap.size,0,none⟩ {w with heap:=w.heap.push (.cells b e)}:=by simpa using (g3 w).1
                 by_cases a8:n * a_.size=0
                 . have J7:Instr.fill (fun i=>some (i * a_.size,a_.size)) ((Array.range (n * a_.size)).map ((#[]:Array Value)[· % 0]!)) g_=some b:=by
                    have aN:(Array.range (n * a_.size)).map ((#[]:Array Value)[· % 0]!)=(Array.range (n * a_.size)).map (x.cells[· % x.cells.size]!):=by rw [a8];simp
                    rw [aN];exact jy
                   have J8:Instr.fill (fun i=>some (i * a_.size,a_.size)) ((Array.range (n * a_.size)).map (fun x=>(#[]:Array Value)[x % (#[]:Array Value).size]!)) g_=some b:=J7;simp only [Instr.buildSlice,Sem.run_bind,hu,Result.andThen_ok,j9 cq,Sem.run_ite];rw [if_neg wi];simp only [Sem.run_pure,Result.andThen_ok,if_pos a8];rw [J8];simp only [Sem.run_bind,kE,Result.andThen_ok,Sem.run_pure]
                 . simp only [Instr.buildSlice,Sem.run_bind,hu,Result.andThen_ok,j9 cq,Sem.run_ite];rw [if_neg wi];simp only [Sem.run_pure,Result.andThen_ok,if_neg a8,ai];rw [jy];simp only [Sem.run_bind,kE,Result.andThen_ok,Sem.run_pure]
               . simp only [Rel];exact ⟨_,dN,Nat.le_refl _,by simp⟩
               . simpa using (g3 w).2 aw hle dN
   | _=>rw [bR] at he;cases he
theorem akj {E:Env} {h ab:ah} {t:TypeId} {x y v:V} {X Y:Value} (ai:Rel E x X) (a1:Rel E y Y) (he:(wO P t).run x y h=.val v ab):
 H6 P E (Instr.makeSlice t X Y) v h ab:=by
 unfold wO at he;cases au:a' P t with
 | none=>rw [au] at he;cases he
 | some aP=>
   rw [au] at he;simp only at he;have hu:=fB au;cases bR:aP.bg with
   | slice e=>
     rw [bR] at he hu;simp only at he;cases cq:a' P e with
     | none=>rw [cq] at he;cases he
     | some a_=>
       rw [cq] at he;simp only at he;cases bn:a_.zero with
       | none=>rw [bn] at he;cases he
       | some z=>
         rw [bn] at he;simp only at he;cases vV:Nat.ble a_.bytes 4096 with
         | false=>rw [vV] at he;cases he
         | true=>
           rw [vV] at he;simp only [cond_true,zp] at he;obtain ⟨bK,l,rfl,yF⟩:=sO he;obtain ⟨bT,c,rfl,ef⟩:=sO yF;have:=ai.iQ;subst this;have:=a1.iQ;subst this;obtain ⟨aC,pV⟩:=jv ef;simp only [Bool.and_eq_true,n2,decide_eq_true_eq,Nat.beq_eq] at aC;obtain ⟨⟨a8,aa,ad⟩,aH⟩:=aC;rw [Nat.ble_eq] at vV;cases aQ:gq h (hI z.cells c.toNat) with
           | none=>rw [aQ] at pV;cases pV
           | some bk=>
             rw [aQ] at pV;simp only [a7.val.injEq] at pV;obtain ⟨rfl,rfl⟩:=pV;obtain ⟨ll,wA,o0,o1⟩:=tc (P:=P) (E:=E) cq bn ⟨#[],fun _ _=>0,0,default,#[]⟩;have sw:ll.cells.size=a_.size:=by rw [o1,aH]
             have sr:=zJ o0 c.toNat;obtain ⟨k,g1,g2,g3⟩:=F3 (P:=P) sr aQ e;have oZ:IntKind.i64.wrap l=l:=by simp only [IntKind.wrap,IntKind.bits,IntKind.signed];simp;omega
             have Lf:IntKind.i64.wrap c=c:=by simp only [IntKind.wrap,IntKind.bits,IntKind.signed];simp;omega
             have hmul:(a_.bytes:Int) * c<=4096 * 1000000:=by
              have ae:(a_.bytes:Int)<=4096:=by omega
              have:=Int.mul_le_mul_of_nonneg_right (c:=c) ae (by omega);omega
             refine ⟨k,g1,g2,fun w=>?_⟩;obtain ⟨i,aq,q0⟩:=GJ (P:=P) cq w;refine ⟨.slice (some ⟨w.heap.size,0,none⟩) l.toNat c.toNat,_,?_,fun aw hle dN=>⟨?_,(g3 w).2 aw hle dN⟩⟩
             . have kE:=(g3 w).1;simp only [Array.toArray_toList] at kE;have bS:¬c<0:=by omega
               have bX:¬((a_.bytes:Int) * c>281474976710656):=by omega
               have c3:¬l<0:=by omega
               have fu:¬l>c:=by omega
               have same:(if c.toNat * a_.size=0 then (Array.range (c.toNat * a_.size)).map (fun x=>(#[]:Array Value)[x % (#[]:Array Value).size]!) else (Array.range (c.toNat * a_.size)).map (fun x=>ll.cells[x % ll.cells.size]!))=
                (Array.range (c.toNat * ll.cells.size)).map (ll.cells[· % ll.cells.size]!):=by
                rw [sw];by_cases aA:c.toNat * a_.size=0
                . rw [aA];simp
                . rw [if_neg aA]
               simp only [Instr.makeSlice,Sem.run_bind,hu,Result.andThen_ok,asInt,asIntOf,Sem.run_pure,aq,oZ,Lf,q0];rw [if_neg (by simp only [Bool.or_eq_true,decide_eq_true_eq,not_or];exact ⟨⟨⟨bS,bX⟩,c3⟩,fu⟩)];simp only [Result.andThen_ok,Sem.run_bind,run_askRoom,j9 cq];by_cases aA:c.toNat * a_.size=0
               . rw [if_pos aA] at same;rw [if_pos aA];simp only [Sem.run_pure,Result.andThen_ok,Sem.run_bind,same,kE,Array.toArray_toList]
               . rw [if_neg aA] at same;rw [if_neg aA];simp only [Sem.run_pure,Result.andThen_ok,Sem.run_bind,wA,same,kE,Array.toArray_toList]
             . simp only [Rel];exact ⟨_,dN,by omega,by simp⟩
   | _=>rw [bR] at he;cases he
theorem ab_ {E:Env} {h ab:ah} {call:dJ} {o:Oper} {ar:Nat} {r:bB} {a:Act} {v:V} (aV:gR o=true) (he:(fi P o).run call r h=.val v ab) (k:RegRel0 E ar r a):
 ∃m:Sem Value,execOp a.eval o=(do pure (.value (<-m)))/\H6 P E m v h ab:=by
 obtain ⟨dst,op,type,pos,after,guard⟩:=o;cases op<;>simp only [gR] at aV<;>try (cases aV;done)
 all_goals simp only [fi] at he
 case alloc t=>
  refine ⟨Instr.alloc t true (.tuple #[]),rfl,?_⟩;cases au:a' P t with
  | none=>rw [au] at he;simp [di.none] at he
  | some aP=>
    rw [au] at he;simp only at he;cases bn:aP.zero with
    | none=>rw [bn] at he;simp [di.none] at he
    | some z=>
      rw [bn] at he;simp only at he;cases aQ:gq h z.cells with
      | none=>rw [aQ] at he;cases he
      | some aa=>
        rw [aQ] at he;simp only [gG,a7.val.injEq] at he;obtain ⟨rfl,rfl⟩:=he;obtain ⟨x,ai,o0,_⟩:=tc (P:=P) (E:=E) au bn ⟨#[],fun _ _=>0,0,default,#[]⟩;obtain ⟨c',g1,g2,g3⟩:=F3 (P:=P) o0 aQ t;refine ⟨c',g1,g2,fun w=>⟨.pointer (some ⟨w.heap.size,0,none⟩),.cells x.cells t,?_,fun aw hle dN=>⟨?_,?_⟩⟩⟩
        . have:=(g3 w).1;simp only [Array.toArray_toList] at this;simp only [Instr.alloc,Sem.run_bind,ai,Result.andThen_ok,newVar,this,Sem.run_pure]
        . simp only [Rel];exact ⟨_,dN,by simp⟩
        . simpa using (g3 w).2 aw hle dN
 case box t x=>
  refine ⟨Instr.box t (a.eval x),rfl,?_⟩;obtain ⟨aF,he⟩:=jv he;cases aQ:gq h ((bQ x).run r).cells with
  | none=>rw [aQ] at he;cases he
  | some aa=>
    rw [aQ] at he;simp only [gG,a7.val.injEq] at he;obtain ⟨rfl,rfl⟩:=he;have az:=(dA k x).cells (fun e=>by rw [e] at aF;cases aF);obtain ⟨c',g1,g2,g3⟩:=F3 (P:=P) az aQ t;refine ⟨c',g1,g2,fun w=>⟨.pointer (some ⟨w.heap.size,0,none⟩),.cells (a.eval x).cells t,?_,fun aw hle dN=>⟨?_,?_⟩⟩⟩
    . have:=(g3 w).1;simp only [Array.toArray_toList] at this;simp only [Instr.box,Sem.run_bind,newVar,this,Result.andThen_ok,Sem.run_pure]
    . simp only [Rel];exact ⟨_,dN,by simp⟩
    . simpa using (g3 w).2 aw hle dN
 case buildSlice t n bj=>
  refine ⟨Instr.buildSlice t n (bj.map fun (i,x)=>(i,a.eval x)),rfl,?_⟩;rw [Mj];exact aaq (Gq k bj.toList) he
 case makeSlice t l c=>exact ⟨Instr.makeSlice t (a.eval l) (a.eval c),rfl,akj (dA k l) (dA k c) he⟩
 case makeMap t x=>
  cases x with
  | some _=>cases aV
  | none=>
    refine ⟨Instr.makeMap t none,rfl,?_⟩;simp only [rl,zo] at he;cases au:a' P t with
    | none=>rw [au] at he;cases he
    | some aP=>
      rw [au] at he;simp only at he;cases ae:Nat.beq (e9 aP.bg) 3 with
      | false=>rw [ae] at he;cases he
      | true=>
        rw [ae] at he;simp only [cond_true,p9,zq] at he;simp only [a7.val.injEq] at he;obtain ⟨rfl,rfl⟩:=he;refine ⟨_,rfl,trivial,fun w=>⟨.map (some w.heap.size),.map #[] 0,?_,fun aw hle dN=>⟨?_,fun B dc=>?_⟩⟩⟩
        . simp only [Instr.makeMap,Sem.run_bind,run_newObj,Result.andThen_ok,Sem.run_pure]
        . simp only [Rel];exact ⟨_,dN,rfl⟩
        . exact ⟨_,#[],dN,dc,by simp,rfl⟩
def Fr.hold (F:Fr) (b:aO) (k:b9):Fr:=⟨F.w,fun bI=>if bI=b then some k else F.d_ bI⟩
def Fr.free (F:Fr) (b:aO):Fr:=⟨F.w,fun bI=>if bI=b then none else F.d_ bI⟩
theorem bf.hold {F:Fr} {E:Env} {h:ah} {w:World} (s:bf F E h w) (k:b9):bf (F.hold (aj h.next) k) E (h.new k) w:=by
 have de:=s.fresh h.next (Nat.le_refl _)
 refine ⟨fun b ae=>?_,fun b bo aD=>?_,fun b bI p p' aa ad aN aZ iq=>?_,fun i aq=>s.fresh i (Nat.le_of_succ_le aq),s.frame,s.laid,fun b p n cs st aa aN=>s.base b p n cs st (by
  have cx:aj h.next≠b:=fun e=>by rw [<-e,de] at aN;cases aN
  rwa [ah.iL,if_neg cx] at aa) aN⟩
 . simp only [Fr.hold] at ae;by_cases aA:b=aj h.next
   . rw [if_pos aA] at ae;cases ae
   . rw [if_neg aA] at ae;rw [ah.iL,if_neg (fun e=>aA e.symm)];exact s.aW b ae
 . simp only [Fr.hold] at aD;by_cases aA:b=aj h.next
   . rw [if_pos aA] at aD;cases aD;exact ⟨by rw [ah.iL,if_pos aA.symm],by rw [aA];exact de,h.next,Nat.lt_succ_self _,aA⟩
   . rw [if_neg aA] at aD;obtain ⟨ao,ax,i,aL,bY⟩:=s.qf b bo aD;exact ⟨by rw [ah.iL,if_neg (fun e=>aA e.symm)];exact ao,ax,i,Nat.lt_succ_of_lt aL,bY⟩
 . have cx:aj h.next≠b:=fun e=>by rw [<-e,de] at aN;cases aN
   have e8:aj h.next≠bI:=fun e=>by rw [<-e,de] at aZ;cases aZ
   rw [ah.iL,if_neg cx] at aa;rw [ah.iL,if_neg e8] at ad;exact s.inj b bI p p' aa ad aN aZ iq
theorem bf.link {F:Fr} {E:Env} {h:ah} {w:World} (s:bf F E h w) {b:aO} {k:b9} (af:F.d_ b=some k) {o:Obj}
 (kl:hx F.w.heap.size (E.put b ⟨w.heap.size,0,0⟩) {w with heap:=w.heap.push o} b k):
 E.le (E.put b ⟨w.heap.size,0,0⟩)/\bf (F.free b) (E.put b ⟨w.heap.size,0,0⟩) h {w with heap:=w.heap.push o}:=by
 obtain ⟨aD,de,i0,wc,vU⟩:=s.qf b k af;have hle:E.le (E.put b ⟨w.heap.size,0,0⟩):=Env.lP de;have dN:E.put b ⟨w.heap.size,0,0⟩ b=some ⟨w.heap.size,0,0⟩:=by unfold Env.put;rw [if_pos rfl]
 have hold:∀bI,bI≠b->E.put b ⟨w.heap.size,0,0⟩ bI=E bI:=by intro bI ae;unfold Env.put;rw [if_neg ae]
 have kg:∀bI q,E bI=some q->(h.get bI)≠.dead->q.aW<w.heap.size:=by
  intro bI q aA bb;have ae:=s.at aA;cases aF:h.get bI with
  | dead=>exact absurd aF bb
  | view n cs=>rw [aF] at ae;obtain ⟨_,ep,c,el,bZ,e,_,bk,_⟩:=ae;rw [e] at aA;cases aA;exact (Array.getElem?_eq_some_iff.1 bk).1
  | cells n cs cX st=>rw [aF] at ae;obtain ⟨_,ep,c,el,bZ,e,_,bk,_⟩:=ae;rw [e] at aA;cases aA;exact (Array.getElem?_eq_some_iff.1 bk).1
  | iter st pos=>rw [aF] at ae;obtain ⟨ep,e,_,_,bk⟩:=ae;rw [e] at aA;cases aA;exact (Array.getElem?_eq_some_iff.1 bk).1
  | mp es clock=>rw [aF] at ae;obtain ⟨ep,a,e,_,bk,_⟩:=ae;rw [e] at aA;cases aA;exact (Array.getElem?_eq_some_iff.1 bk).1
  | df l=>rw [aF] at ae;obtain ⟨ep,a,e,_,bk,_⟩:=ae;rw [e] at aA;cases aA;exact (Array.getElem?_eq_some_iff.1 bk).1
  | fj=>rw [aF] at ae;obtain ⟨ep,e,_,bk⟩:=ae;rw [e] at aA;cases aA;exact (Array.getElem?_eq_some_iff.1 bk).1
  | jH es=>rw [aF] at ae;obtain ⟨ep,a,c,l,e,_,bk,_⟩:=ae;rw [e] at aA;cases aA;exact (Array.getElem?_eq_some_iff.1 bk).1
  | jG src since seen last=>rw [aF] at ae;obtain ⟨ep,m,a,e,_,_,bk,_⟩:=ae;rw [e] at aA;cases aA;exact (Array.getElem?_eq_some_iff.1 bk).1
 refine ⟨hle,fun bI fb=>?_,fun bI bo gO=>?_,fun cn ch b0 b1 aa ad aN aZ iq=>?_,fun i aq=>?_,⟨s.frame.os,s.frame.tape,s.frame.output,?_,fun j a6=>?_⟩,s.laid,fun cn b0 n cs st aa aN=>by
  by_cases bS:cn=b
  . subst bS;rw [dN] at aN;cases aN;rfl
  . rw [hold cn bS] at aN;exact s.base _ _ _ _ _ aa aN⟩
 . by_cases aA:bI=b
   . subst aA;rw [aD];exact kl
   . simp only [Fr.free,if_neg aA] at fb;have a8:=(s.aW bI fb).mono hle;by_cases bb:h.get bI=.dead
     . rw [bb];trivial
     . refine hx.gB a8 fun q nY=>?_;rw [hold bI aA] at nY;have:=kg bI q nY bb;simp only [Array.getElem?_push];rw [if_neg (by omega)]
 . simp only [Fr.free] at gO;by_cases aA:bI=b
   . rw [if_pos aA] at gO;cases gO
   . rw [if_neg aA] at gO;obtain ⟨ao,ax,aL⟩:=s.qf bI bo gO;exact ⟨ao,by rw [hold bI aA];exact ax,aL⟩
 . by_cases bS:cn=b<;>by_cases bX:ch=b
   . exact bS.trans bX.symm
   . subst bS;rw [dN] at aN;cases aN;rw [hold ch bX] at aZ;have:=kg ch b1 aZ (fun e=>by rw [e] at ad;cases ad);simp only at iq;omega
   . subst bX;rw [dN] at aZ;cases aZ;rw [hold cn bS] at aN;have:=kg cn b0 aN (fun e=>by rw [e] at aa;cases aa);simp only at iq;omega
   . rw [hold cn bS] at aN;rw [hold ch bX] at aZ;exact s.inj cn ch b0 b1 aa ad aN aZ iq
 . rw [hold _ (fun e=>?_)]
   . exact s.fresh i aq
   . rw [vU] at e;have:=ed e;omega
 . have:=s.frame.size;simp only [Array.size_push,Fr.free];omega
 . have aa:=s.frame.size;simp only [Fr.free,Array.getElem?_push];rw [if_neg (by simp only [Fr.free] at a6;omega)];exact s.frame.block j a6
end
section
variable {P:Program}
def eh (es:List eS) (cZ:bB) (i:Nat):bB:=
 match es[i]? with
 | some e=>e.r
 | none=>cZ
theorem yG (e:eS) (es:List eS) (aB:ah) (i:Nat):cg (e::es) aB (i+1)=cg es aB i:=by simp [cg]
theorem zI (e:eS) (es:List eS) (cZ:bB) (i:Nat):eh (e::es) cZ (i+1)=eh es cZ i:=by simp [eh]
theorem uS {ar:Nat} {all:Array Oper} {call:dJ}:∀{l:List Oper} {r cZ:bB} {h aB:ah} {es:List eS},(fD P ar all l).run call r h=.ok es cZ aB->
 es.length=l.length/\cg es aB 0=h/\eh es cZ 0=r/\∀j o,l[j]? =some o->∃e,es[j]? =some e/\(cB P ar all o).run call e.r e.h=.val e.v (cg es aB (j+1))/\eh es cZ (j+1)=(fK o.dst).run e.r e.v
 | [],r,cZ,h,aB,es,he=>by simp only [fD,qs.ok.injEq] at he;obtain ⟨rfl,rfl,rfl⟩:=he;exact ⟨rfl,rfl,rfl,fun j o aX=>by simp at aX⟩
 | o::os,r,cZ,h,aB,es,he=>by
   simp only [fD,CI] at he;cases aa:(cB P ar all o).run call r h with
   | fail=>rw [aa] at he;cases he
   | cM _ _=>rw [aa] at he;simp only at he;cases hm:lQ o.op<;>rw [hm] at he<;>cases he
   | val v bk=>
     rw [aa] at he;simp only at he;cases ad:(fD P ar all os).run call ((fK o.dst).run r v) bk with
     | fail=>rw [ad] at he;cases he
     | cM _ _ _ _ _=>rw [ad] at he;cases he
     | ok hC bD aH=>
       rw [ad] at he;simp only [qs.ok.injEq] at he;obtain ⟨rfl,rfl,rfl⟩:=he;obtain ⟨ao,ax,aL,bY⟩:=uS ad;refine ⟨by simp [ao],by simp [cg],by simp [eh],fun j cb aX=>?_⟩;cases j with
       | zero=>
         simp only [List.getElem?_cons_zero,Option.some.injEq] at aX;subst aX;exact ⟨⟨r,h,v⟩,rfl,by rw [yG,ax];exact aa,by rw [zI,aL]⟩
       | succ j=>
         obtain ⟨e,b0,b1,cS⟩:=bY j cb (by simpa using aX);exact ⟨e,by simpa using b0,by rw [yG];exact b1,by rw [zI];exact cS⟩
theorem WS {ar:Nat} {all:Array Oper} {call:dJ}:∀{l:List Oper} {r cZ:bB} {h aB ab:ah} {es:List eS} {v:V},(fD P ar all l).run call r h=.cM es cZ aB v ab->
 cg es aB 0=h/\eh es cZ 0=r/\(∀j o,j<es.length->l[j]? =some o->∃e,es[j]? =some e/\(cB P ar all o).run call e.r e.h=.val e.v (cg es aB (j+1))/\eh es cZ (j+1)=(fK o.dst).run e.r e.v)/\
  ∃o,l[es.length]? =some o/\lQ o.op=true/\(cB P ar all o).run call cZ aB=.cM v ab
 | [],r,cZ,h,aB,ab,es,v,he=>by simp [fD] at he
 | o::os,r,cZ,h,aB,ab,es,v,he=>by
   simp only [fD,CI] at he;cases aa:(cB P ar all o).run call r h with
   | fail=>rw [aa] at he;cases he
   | cM x ai=>
     rw [aa] at he;simp only at he;cases hm:lQ o.op with
     | false=>rw [hm] at he;cases he
     | true=>
       rw [hm] at he;simp only [cond_true,qs.cM.injEq] at he;obtain ⟨rfl,rfl,rfl,rfl,rfl⟩:=he;exact ⟨rfl,rfl,fun j cb a6=>by simp at a6,o,rfl,hm,aa⟩
   | val x bk=>
     rw [aa] at he;simp only at he;cases ad:(fD P ar all os).run call ((fK o.dst).run r x) bk with
     | fail=>rw [ad] at he;cases he
     | ok _ _ _=>rw [ad] at he;cases he
     | cM hC bD aH v1 bt=>
       rw [ad] at he;simp only [qs.cM.injEq] at he;obtain ⟨rfl,rfl,rfl,rfl,rfl⟩:=he;obtain ⟨ax,aL,bY,dk,ee,fQ,iV⟩:=WS ad;refine ⟨by simp [cg],by simp [eh],fun j cb a6 aX=>?_,dk,by simpa using ee,fQ,iV⟩;cases j with
       | zero=>
         simp only [List.getElem?_cons_zero,Option.some.injEq] at aX;subst aX;exact ⟨⟨r,h,x⟩,rfl,by rw [yG,ax];exact aa,by rw [zI,aL]⟩
       | succ j=>
         obtain ⟨e,b0,b1,cS⟩:=bY j cb (by simpa using a6) (by simpa using aX);exact ⟨e,by simpa using b0,by rw [yG];exact b1,by rw [zI];exact cS⟩
theorem RV {ar:Nat} {d:Option Nat} (bb:eW ar d=true) {r:bB} {v:V} {t:Nat} (au:t<=top):T.get .bad (aj t) ((fK d).run r v)=if d=some t then v else T.get .bad (aj t) r:=by
 cases d with
 | none=>simp [fK]
 | some d=>
   simp only [eW,Bool.and_eq_true,Nat.blt_eq,Nat.ble_eq] at bb;simp only [fK,T.h5,Option.some.injEq];by_cases h:d=t
   . subst h;simp
   . rw [if_neg (fun e=>h (ed e)),if_neg h]
theorem ky {ar:Nat} {all:Array Oper} {o:Oper} {call:dJ} {r:bB} {h ab:ah} {v:V} (he:(cB P ar all o).run call r h=.val v ab):eW ar o.dst=true/\jN (b2 all o)=true:=by
 unfold cB at he;cases aC:(eW ar o.dst&&jN (b2 all o)) with
 | false=>rw [aC] at he;simp [di.none] at he
 | true=>simpa using aC
theorem Nn {r:bB} {rs:List Nat} (aM:jN rs=true) {t:Nat} (au:t<=top):T.get .bad (aj t) (dq r rs)=if t ∈ rs then T.get .bad (aj t) r else .bad:=by
 induction rs with
 | nil=>simp [dq]
 | cons u rs bd=>
   simp only [jN,List.all_cons,Bool.and_eq_true,Nat.ble_eq] at aM;simp only [dq,T.h5,List.mem_cons];by_cases h:u=t
   . subst h;simp
   . rw [if_neg (fun e=>h (ed e)),bd aM.2];have ab:¬t=u:=fun e=>h e.symm;simp [ab]
theorem Q2 {ar:Nat} {all:Array Oper} {o:Oper} {call:dJ} {r:bB} {h ab:ah} {v:V} (he:(cB P ar all o).run call r h=.cM v ab):eW ar o.dst=true/\jN (b2 all o)=true:=by
 unfold cB at he;cases aC:(eW ar o.dst&&jN (b2 all o)) with
 | false=>rw [aC] at he;simp [di.none] at he
 | true=>simpa using aC
def Ig (ay:Fr) (E:Env) (o:Oper) (a:Act) (K:Act->World->Prop) (Q:Exit->Act->World->Prop):a7->Prop
 | .val v ab=>∀aw x w',E.le aw->Rel aw v x->bf ay aw ab w'->K (a.put o.dst x) w'
 | .cM v ab=>lQ o.op=true/\∀aw x w',E.le aw->Rel aw v x->bf ay aw ab w'->Q (.panic (qd x)) a w'
 | .fail=>False
theorem Q3 {rd:Option Nat} {ay:Fr} {E:Env} {h:ah} {w:World} {call:dJ} (bH:eF P) (cU:gW P call) (dB:hb P call) {all:Array Oper} {i:Nat} {o:Oper} (aq:all[i]? =some o) {ar:Nat} {r:bB} {a:Act}
 (gm:eW ar o.dst=true/\jN (b2 all o)=true) (p1:a.tmps.size=ar) (kG:∀t ∈ b2 all o,Rel E (T.get .bad (aj t) r) (a.tmps.getD t undef)) (s:bf ay E h w)
 {K:Act->World->Prop} {Q:Exit->Act->World->Prop} (af:Ig ay E o a K Q ((cB P ar all o).run call r h)):wpOpIn (ct rd) 0 P all Q i K a w:=by
 obtain ⟨bb,aM⟩:=gm;have k:RegRel0 E ar (dq r (b2 all o)) a:=⟨p1,fun t au=>by
  rw [Nn aM au];by_cases hm:t ∈ b2 all o
  . rw [if_pos hm];exact kG t hm
  . rw [if_neg hm];simp [Rel]⟩
 unfold cB at af;rw [show (eW ar o.dst&&jN (b2 all o))=true from by rw [bb,aM];rfl] at af;simp only [cond_true] at af;have wanted:Ig ay E o a K Q ((fi P o).run call (dq r (b2 all o)) h)->Region.wanted o (yielded all a.tmps)=true->wpOpIn (ct rd) 0 P all Q i K a w:=by
  intro aa hw;simp only [wpOpIn,aq,hw,if_true];cases aG:(fi P o).run call (dq r (b2 all o)) h with
  | fail=>rw [aG] at aa;exact aa.elim
  | val v ab=>rw [aG] at aa;exact QP bH cU dB aG k s aa
  | cM v ab=>rw [aG] at aa;exact QM bH cU aa.1 aG k s aa.2
 have Xt:Ig ay E o a K Q (.val (.tuple []) h)->Region.wanted o (yielded all a.tmps)=false->wpOpIn (ct rd) 0 P all Q i K a w:=by intro aa hw;simp only [wpOpIn,aq,hw,Bool.false_eq_true,if_false];exact ⟨fun _ _=>trivial,aa E undef w (Env.le.refl E) (by simp only [Rel];exact ⟨#[],rfl,rfl⟩) s⟩
 cases aF:o.guard with
 | none=>
   rw [aF] at af;exact wanted af (by simp [Region.wanted,aF])
 | some p3=>
   obtain ⟨j,want⟩:=p3;rw [aF] at af;simp only at af;cases a6:all[j]? with
   | none=>rw [a6] at af;exact af.elim
   | some g=>
     rw [a6] at af;simp only at af;cases kF:g.dst with
     | none=>rw [kF] at af;exact af.elim
     | some d=>
       rw [kF] at af;simp only at af;cases aC:(Nat.blt d ar&&Nat.ble d top) with
       | false=>rw [aC] at af;exact af.elim
       | true=>
         rw [aC] at af;simp only [cond_true,ja,oN] at af;simp only [Bool.and_eq_true,Nat.blt_eq,Nat.ble_eq] at aC;obtain ⟨g1,g2⟩:=JV k a6 kF aC.1 aC.2;cases ba:T.get .bad (aj d) (dq r (b2 all o))<;>rw [ba] at af<;>simp only at af<;>try (exact af.elim)
         . rename_i b;have a1:=g1 b ba;cases ae:(bif want then b else !b) with
           | true=>
             rw [ae] at af;simp only [cond_true] at af;refine wanted af ?_;simp only [Region.wanted,aF,a1];cases want<;>cases b<;>simp_all
           | false=>
             rw [ae] at af;simp only [cond_false] at af;refine Xt af ?_;simp only [Region.wanted,aF,a1];cases want<;>cases b<;>simp_all
         . rename_i ag;have a1:=g2 ag ba;refine Xt af ?_;simp only [Region.wanted,aF,a1];rfl
theorem qK {rd:Option Nat} {ay:Fr} {E:Env} {h ab:ah} {w:World} {call:dJ} (bH:eF P) (cU:gW P call) (dB:hb P call) {all:Array Oper} {i:Nat} {o:Oper} (aq:all[i]? =some o) {ar:Nat} {r:bB} {a:Act} {v:V}
 (he:(cB P ar all o).run call r h=.val v ab) (p1:a.tmps.size=ar) (kG:∀t ∈ b2 all o,Rel E (T.get .bad (aj t) r) (a.tmps.getD t undef)) (s:bf ay E h w)
 {K:Act->World->Prop} {Q:Exit->Act->World->Prop} (dK:∀aw x w',E.le aw->Rel aw v x->bf ay aw ab w'->K (a.put o.dst x) w'):wpOpIn (ct rd) 0 P all Q i K a w:=
 Q3 bH cU dB aq (ky he) p1 kG s (by rw [he];exact dK)
theorem acy {rd:Option Nat} {ay:Fr} {E:Env} {h ab:ah} {w:World} {call:dJ} (bH:eF P) (cU:gW P call) (dB:hb P call) {all:Array Oper} {i:Nat} {o:Oper} (aq:all[i]? =some o) {ar:Nat} {r:bB} {a:Act} {v:V}
 (he:(cB P ar all o).run call r h=.cM v ab) (hm:lQ o.op=true) (p1:a.tmps.size=ar) (kG:∀t ∈ b2 all o,Rel E (T.get .bad (aj t) r) (a.tmps.getD t undef)) (s:bf ay E h w)
 {K:Act->World->Prop} {Q:Exit->Act->World->Prop} (cO:∀aw x w',E.le aw->Rel aw v x->bf ay aw ab w'->Q (.panic (qd x)) a w'):wpOpIn (ct rd) 0 P all Q i K a w:=
 Q3 bH cU dB aq (Q2 he) p1 kG s (by rw [he];exact ⟨hm,cO⟩)
theorem vA {ar:Nat} {all:Array Oper} {o:Oper} {call:dJ} {r:bB} {h ab:ah} {v:V} (aA:e0 P o.op=false) (he:(cB P ar all o).run call r h=.val v ab):
 ab=h/\(looks o.op=false->∀H,(cB P ar all o).run call r H=.val v H):=by
 obtain ⟨bb,aM⟩:=ky he;have cz:(eW ar o.dst&&jN (b2 all o))=true:=by rw [bb,aM];rfl
 have key:cB P ar all o=(match o.guard with
  | none=>⟨ja none (fi P o) (b2 all o)⟩
  | some (j,want)=>match all[j]? with
    | some g=>match g.dst with
      | some d=>bif Nat.blt d ar&&Nat.ble d top then ⟨ja (some (oN (aj d),want)) (fi P o) (b2 all o)⟩ else di.none
      | none=>di.none
    | none=>di.none):=by
  unfold cB;rw [cz];rfl
 rw [key] at he ⊢;cases aF:o.guard with
 | none=>
   rw [aF] at he;exact ⟨QO aA he,fun az H=>QN aA az he H⟩
 | some p3=>
   obtain ⟨j,want⟩:=p3;rw [aF] at he;simp only at he ⊢;cases a6:all[j]? with
   | none=>rw [a6] at he;simp [di.none] at he
   | some g=>
     rw [a6] at he;simp only at he ⊢;cases kF:g.dst with
     | none=>rw [kF] at he;simp [di.none] at he
     | some d=>
       rw [kF] at he;simp only at he ⊢;cases aC:(Nat.blt d ar&&Nat.ble d top) with
       | false=>rw [aC] at he;simp [di.none] at he
       | true=>
         rw [aC] at he;simp only [cond_true,ja] at he ⊢;cases ba:(oN (aj d)).run (dq r (b2 all o))<;>rw [ba] at he<;>simp only at he ⊢<;>try (cases he;done)
         . rename_i b;cases ae:(bif want then b else !b)<;>rw [ae] at he<;>simp only [cond_true,cond_false] at he ⊢
           . simp only [a7.val.injEq] at he ⊢;exact ⟨he.2.symm,fun _ H=>⟨he.1,trivial⟩⟩
           . exact ⟨QO aA he,fun az H=>QN aA az he H⟩
         . simp only [a7.val.injEq] at he ⊢;exact ⟨he.2.symm,fun _ H=>⟨he.1,trivial⟩⟩
theorem O_ {op:di} {call:dJ} {es:List eS} {aB:ah} {r:bB} {v:V}:∀{e2:List Nat},DL op call es aB r v e2=true->∀s ∈ e2,∃ab,op.run call r (cg es aB s)=.val v ab
 | [],_,s,h=>by simp at h
 | e1::e2,he,s,hm=>by
   simp only [DL,Bool.and_eq_true] at he;simp only [List.mem_cons] at hm;rcases hm with rfl | hm
   . have aa:=he.1;cases aG:op.run call r (cg es aB s) with
     | fail=>rw [aG] at aa;cases aa
     | cM _ _=>rw [aG] at aa;cases aa
     | val c1 ab=>
       rw [aG] at aa;rw [JF aa];exact ⟨ab,rfl⟩
   . exact O_ he.2 s hm
theorem IE {ar:Nat} {all:Array Oper} {dS aE eu:List Nat} {call:dJ} {es:List eS} {aB:ah}:∀{l:List Oper} {i:Nat},(rX P ar all dS aE eu i l).run call es aB=true->
 ∀j o,l[j]? =some o->looks o.op=true->e0 P o.op=false->∀e,es[posOf aE (i+j)]? =some e->∀s ∈ eu,sK P dS all.toList aE (i+j) ((dS[i+j]?).getD 0) s=true->∃ab,(cB P ar all o).run call e.r (cg es aB s)=.val e.v ab
 | [],_,_,j,o,aX,_,_=>by simp at aX
 | cb::os,i,he,j,o,aX,az,aA=>by
   simp only [rX] at he;cases j with
   | zero=>
     simp only [List.getElem?_cons_zero,Option.some.injEq] at aX;subst aX;rw [az,aA] at he;simp only [Bool.not_false,Bool.and_true,cond_true,Bool.and_eq_true,Pa] at he;have aa:=he.1;intro e oR s aM hm
     . rw [Nat.add_zero] at oR;rw [oR] at aa;exact O_ aa s (List.mem_filter.2 ⟨aM,by simpa using hm⟩)
   | succ j=>
     have rest:(rX P ar all dS aE eu (i+1) os).run call es aB=true:=by
      cases aC:(looks cb.op&&!e0 P cb.op) with
      | false=>rw [aC] at he;exact he
      | true=>rw [aC] at he;simp only [cond_true,Bool.and_eq_true] at he;exact he.2
     have:=IE rest j o (by simpa using aX) az aA;rw [show i + (j+1)=i+1+j from by omega];exact this
theorem zl {aE:List Nat}:∀{l:List Oper} {i j:Nat} {o:Oper},l[j]? =some o->ec P o=true->posOf aE (i+j) ∈ hG P aE i l
 | [],_,j,o,h,_=>by simp at h
 | cb::os,i,j,o,h,he=>by
   simp only [hG];cases j with
   | zero=>
     simp only [List.getElem?_cons_zero,Option.some.injEq] at h;subst h;rw [he];simp
   | succ j=>
     have:=zl (aE:=aE) (i:=i+1) (by simpa using h) he;rw [show i + (j+1)=i+1+j from by omega];cases ec P cb with
     | true=>simp [this]
     | false=>exact this
theorem FR {aE:List Nat}:∀{l:List Oper} {i:Nat},i+l.length ∈ hG P aE i l
 | [],_=>by simp [hG]
 | o::os,i=>by
   have:=FR (aE:=aE) (l:=os) (i:=i+1);simp only [hG,List.length_cons];rw [show i + (os.length+1)=i+1+os.length from by omega];cases ec P o with
   | true=>simp [this]
   | false=>exact this
theorem uo {aE:List Nat}:∀{l:List Oper} {i s:Nat},s ∈ hG P aE i l->s=i+l.length\/∃j o,l[j]? =some o/\ec P o=true/\s=posOf aE (i+j)
 | [],i,s,h=>by simp only [hG,List.mem_singleton] at h;exact .inl (by simpa using h)
 | o::os,i,s,h=>by
   simp only [hG] at h;have rest:s ∈ hG P aE (i+1) os->s=i + (o::os).length\/∃j cb,(o::os)[j]? =some cb/\ec P cb=true/\s=posOf aE (i+j):=by
    intro h;rcases uo h with h | ⟨j,cb,aa,ad,aH⟩
    . exact .inl (by simp only [List.length_cons];omega)
    . exact .inr ⟨j+1,cb,by simpa using aa,ad,by rw [aH];congr 1;omega⟩
   cases aC:ec P o with
   | true=>
     rw [aC] at h;simp only [cond_true,List.mem_cons] at h;rcases h with h | h
     . exact .inr ⟨0,o,rfl,aC,h⟩
     . exact rest h
   | false=>rw [aC] at h;exact rest h
theorem ab5 {c:Bool} {f:V->V->ah->a7} {x y v:V} {h ab:ah} (he:(bif c then (⟨f⟩:Aa) else ⟨fun _ _ _=>.fail⟩).run x y h=.val v ab):c=true/\f x y h=.val v ab:=by
 cases c with
 | true=>exact ⟨rfl,he⟩
 | false=>cases he
theorem aca {o:Oper} {call:dJ} {r:bB} {h ab:ah} {v:V} (aV:gR o=true) (he:(fi P o).run call r h=.val v ab):∃k,ab=h.new k/\True:=by
 have cells:∀{ag:List V} {aa:ah},gq h ag=some aa->∃k,aa=h.new k/\True:=by intro ag aa he;unfold gq at he;obtain ⟨aC,he⟩:=ey he;cases he;exact ⟨_,rfl,trivial⟩
 obtain ⟨dst,op,type,pos,after,guard⟩:=o;cases op<;>simp only [gR] at aV<;>try (cases aV;done)
 all_goals simp only [fi] at he
 case alloc t=>
  cases au:a' P t with
  | none=>rw [au] at he;simp [di.none] at he
  | some aP=>
    rw [au] at he;simp only at he;cases bn:aP.zero with
    | none=>rw [bn] at he;simp [di.none] at he
    | some z=>
      rw [bn] at he;simp only at he;cases aQ:gq h z.cells with
      | none=>rw [aQ] at he;cases he
      | some aa=>
        rw [aQ] at he;simp only [gG,a7.val.injEq] at he;obtain ⟨_,rfl⟩:=he;exact cells aQ
 case box t x=>
  obtain ⟨aF,he⟩:=jv he;cases aQ:gq h ((bQ x).run r).cells with
  | none=>rw [aQ] at he;cases he
  | some aa=>
    rw [aQ] at he;simp only [gG,a7.val.injEq] at he;obtain ⟨_,rfl⟩:=he;exact cells aQ
 case buildSlice t n bj=>
  unfold vv at he;cases au:a' P t with
  | none=>rw [au] at he;cases he
  | some aP=>
    rw [au] at he;simp only at he;cases bR:aP.bg<;>rw [bR] at he<;>simp only at he<;>try (cases he;done)
    rename_i e;cases cq:a' P e with
    | none=>rw [cq] at he;cases he
    | some a_=>
      rw [cq] at he;simp only at he;cases bn:a_.zero with
      | none=>rw [bn] at he;cases he
      | some z=>
        rw [bn] at he;simp only at he;cases aC:(Nat.ble (n * a_.size) 1000000&&Nat.beq z.cells.length a_.size) with
        | false=>rw [aC] at he;cases he
        | true=>
          rw [aC] at he;simp only [cond_true] at he;cases aB:mH (fun i=>some (i * a_.size,a_.size)) (hI z.cells n) ((uz bj.toList).run r) with
          | none=>rw [aB] at he;cases he
          | some cs=>
            rw [aB] at he;simp only at he;cases aQ:gq h cs with
            | none=>rw [aQ] at he;cases he
            | some aa=>
              rw [aQ] at he;simp only [a7.val.injEq] at he;obtain ⟨_,rfl⟩:=he;exact cells aQ
 case makeSlice t l c=>
  unfold wO at he
  split at he
  rotate_left
  . cases he
  split at he
  rotate_left
  . cases he
  split at he
  rotate_left
  . cases he
  split at he
  rotate_left
  . cases he
  obtain ⟨_,he⟩:=ab5 he;simp only [zp] at he;obtain ⟨_,_,_,he⟩:=sO he;obtain ⟨_,_,_,he⟩:=sO he;obtain ⟨_,he⟩:=jv he
  split at he
  . rename_i aQ;simp only [a7.val.injEq] at he;obtain ⟨_,rfl⟩:=he;exact cells aQ
  . cases he
 case makeMap t x=>
  cases x with
  | some _=>cases aV
  | none=>
    simp only [rl,zo] at he;cases au:a' P t with
    | none=>rw [au] at he;cases he
    | some aP=>
      rw [au] at he;simp only at he;cases ae:Nat.beq (e9 aP.bg) 3 with
      | false=>rw [ae] at he;cases he
      | true=>
        rw [ae] at he;simp only [cond_true,p9,zq] at he;simp only [a7.val.injEq] at he;exact ⟨_,he.2.symm,trivial⟩
theorem agX {o:Oper} (aV:gR o=true):e0 P o.op=true:=by obtain ⟨dst,op,type,pos,after,guard⟩:=o;cases op<;>simp only [gR] at aV<;>first | (cases aV;done) | rfl
theorem Q5 {ar:Nat} {all:Array Oper} {o:Oper} {call:dJ} {r:bB} {h ab:ah} {v:V} (he:(cB P ar all o).run call r h=.val v ab):
 ((fi P o).run call (dq r (b2 all o)) h=.val v ab/\∀E a,RegRel0 E ar (dq r (b2 all o)) a->Region.wanted o (yielded all a.tmps)=true)\/
 (ab=h/\∀H,(cB P ar all o).run call r H=.val v H):=by
 obtain ⟨bb,aM⟩:=ky he;have cz:(eW ar o.dst&&jN (b2 all o))=true:=by rw [bb,aM];rfl
 have key:cB P ar all o=(match o.guard with
  | none=>⟨ja none (fi P o) (b2 all o)⟩
  | some (j,want)=>match all[j]? with
    | some g=>match g.dst with
      | some d=>bif Nat.blt d ar&&Nat.ble d top then ⟨ja (some (oN (aj d),want)) (fi P o) (b2 all o)⟩ else di.none
      | none=>di.none
    | none=>di.none):=by
  unfold cB;rw [cz];rfl
 rw [key] at he ⊢;cases aF:o.guard with
 | none=>
   rw [aF] at he;exact .inl ⟨he,fun E a _=>by simp [Region.wanted,aF]⟩
 | some p3=>
   obtain ⟨j,want⟩:=p3;rw [aF] at he;simp only at he ⊢;cases a6:all[j]? with
   | none=>rw [a6] at he;simp [di.none] at he
   | some g=>
     rw [a6] at he;simp only at he ⊢;cases kF:g.dst with
     | none=>rw [kF] at he;simp [di.none] at he
     | some d=>
       rw [kF] at he;simp only at he ⊢;cases aC:(Nat.blt d ar&&Nat.ble d top) with
       | false=>rw [aC] at he;simp [di.none] at he
       | true=>
         rw [aC] at he;simp only [cond_true,ja] at he ⊢;have hQ:=aC;simp only [Bool.and_eq_true,Nat.blt_eq,Nat.ble_eq] at hQ;cases ba:(oN (aj d)).run (dq r (b2 all o))<;>rw [ba] at he<;>simp only at he ⊢<;>try (cases he;done)
         . rename_i b;cases ae:(bif want then b else !b)<;>rw [ae] at he<;>simp only [cond_true,cond_false] at he ⊢
           . simp only [a7.val.injEq] at he ⊢;exact .inr ⟨he.2.symm,fun H=>⟨he.1,trivial⟩⟩
           . refine .inl ⟨he,fun E a k=>?_⟩;obtain ⟨g1,_⟩:=JV k a6 kF hQ.1 hQ.2;have a1:=g1 b ba;simp only [Region.wanted,aF,a1];cases want<;>cases b<;>simp_all
         . simp only [a7.val.injEq] at he ⊢;exact .inr ⟨he.2.symm,fun H=>⟨he.1,trivial⟩⟩
theorem Q4 {ar:Nat} {all:Array Oper} {o:Oper} {call:dJ} {r:bB} {h ab:ah} {v:V} (aV:gR o=true) (he:(cB P ar all o).run call r h=.val v ab):
 (∃k,ab=h.new k/\True)\/(ab=h/\∀H,(cB P ar all o).run call r H=.val v H):=by
 rcases Q5 he with ⟨aa,_⟩ | aa
 . exact .inl (aca aV aa)
 . exact .inr aa
theorem acw {rd:Option Nat} {F:Fr} {E:Env} {h ab H:ah} {w:World} {call:dJ} {all:Array Oper} {i:Nat} {o:Oper} (aq:all[i]? =some o) (aV:gR o=true) {ar:Nat} {r:bB} {a:Act} {v:V}
 (he:(cB P ar all o).run call r h=.val v ab) (p1:a.tmps.size=ar) (kG:∀t ∈ b2 all o,Rel E (T.get .bad (aj t) r) (a.tmps.getD t undef)) (s:bf F E H w)
 (KJ:ab.next≠h.next) (af:F.d_ (aj h.next)=some (ab.get (aj h.next)))
 {K:Act->World->Prop} {Q:Exit->Act->World->Prop} (dK:∀aw x w',E.le aw->Rel aw v x->bf (F.free (aj h.next)) aw H w'->K (a.put o.dst x) w'):wpOpIn (ct rd) 0 P all Q i K a w:=by
 obtain ⟨bb,aM⟩:=ky he;have k:RegRel0 E ar (dq r (b2 all o)) a:=⟨p1,fun t au=>by
  rw [Nn aM au];by_cases hm:t ∈ b2 all o
  . rw [if_pos hm];exact kG t hm
  . rw [if_neg hm];simp [Rel]⟩
 obtain ⟨eG,hw⟩:(fi P o).run call (dq r (b2 all o)) h=.val v ab/\Region.wanted o (yielded all a.tmps)=true:=by
  rcases Q5 he with ⟨aa,ad⟩ | ⟨aa,_⟩
  . exact ⟨aa,ad E a k⟩
  . exact absurd (by rw [aa]) KJ
 obtain ⟨m,ai,c',ao,ax,aL⟩:=ab_ aV eG k;simp only [wpOpIn,aq,hw,if_true];obtain ⟨X,c7,b0,b1⟩:=aL w;rw [ao,ah.iL,if_pos rfl] at af;have dN:E.put (aj h.next) ⟨w.heap.size,0,0⟩ (aj h.next)=some ⟨w.heap.size,0,0⟩:=by unfold Env.put;rw [if_pos rfl]
 have hle:E.le (E.put (aj h.next) ⟨w.heap.size,0,0⟩):=Env.lP (s.qf _ _ af).2.1;obtain ⟨bD,b3⟩:=b1 _ hle dN;have b':F.w.heap.size<=w.heap.size:=s.frame.size;obtain ⟨_,jZ⟩:=s.link af (o:=c7) (b3 _ b');refine ⟨fun _ _=>trivial,?_⟩;rw [qi (by intro c h;have:=aV;unfold gR at this;rw [h] at this;cases this),ai,Sem.run_bind,b0];exact dK _ X _ hle bD jZ
end
end
end Go.Proofs.YthemdhlheglhoaaGreatDoor.aY
