/- The abstract machine and its walks (a verified interpreter of the model's code: plain definitions and lemmas, no condition). Printed by a program from longer texts: names made short. -/
import Derived.Test.YthemdhlheglhoaaGreatDoorM1
import Derived.LaidEqlPtr
import Derived.RangeFuncLeaves
import Derived.RecoverIn
import Derived.OrdersIn
set_option linter.unusedSectionVars false
set_option linter.unusedSimpArgs false
set_option linter.unusedVariables false
set_option maxHeartbeats 64000000
noncomputable section
namespace Go.Proofs.YthemdhlheglhoaaGreatDoor.a7
section
open Go Go.RowKit
variable [Lay]
section
variable {P:Program}
theorem WA {α β:Type} (g:α->Sem β) (k:α->β) (w:World):∀(l:List α),(∀x ∈ l,(g x).run P w=.ok (k x) w)->(l.mapM g).run P w=.ok (l.map k) w
 | [],_=>by simp
 | x::l,h=>by rw [List.mapM_cons,Sem.run_bind,h x (by simp)];simp only [Result.andThen_ok,Sem.run_bind,WA g k w l (fun y aZ=>h y (by simp [aZ])),Sem.run_pure,List.map]
theorem aan {E:Env} {t:TypeId} {bm:List (Nat × V)} {cy:List (Nat × Value)} {v:V} (ag:r7 E bm cy) (he:(Ef P t).run bm=some v) (w:World):
 ∃Z,(Instr.build t cy.toArray).run P w=.ok Z w/\Rel E v Z:=by
 unfold Ef at he;cases aw:a_ P t with
 | none=>rw [aw] at he;cases he
 | some aS=>
   rw [aw] at he;simp only at he;cases bn:aS.zero with
   | none=>rw [bn] at he;cases he
   | some z=>
     rw [bn] at he;simp only at he;obtain ⟨x,ak,ou,nz⟩:=zS (P:=P) aw bn E w;have hu:=fR aw w;have Tz:bk E z.cells x.cells.toList:=by
      rw [nz];have:∀y:Value,bk E (hV y).cells y.cells.toList:=by
       intro y;cases y with
       | agg cs=>simp only [hV,V.cells,Value.cells];exact CF E _
       | pointer a=>cases a<;>simp [hV,j7,V.cells,Value.cells,bk,Rel]
       | slice a n c=>
         have:=uH E (.slice a n c);cases a with
         | some a=>simp [hV,j7,V.cells,Value.cells,bk,Rel]
         | none=>
           simp only [hV,j7] at this ⊢;cases ae:(Nat.beq n 0&&Nat.beq c 0) with
           | false=>simp [V.cells,Value.cells,bk,Rel]
           | true=>rw [ae] at this;simpa [V.cells,Value.cells,bk] using this
       | map r=>cases r<;>simp [hV,j7,V.cells,Value.cells,bk,Rel]
       | tuple cs=>
         have:=uH E (.tuple cs);simp only [hV,V.cells,Value.cells,bk] at this ⊢;exact ⟨_,_,rfl,this,rfl⟩
       | _=>simp [hV,j7,V.cells,Value.cells,bk,Rel]
      exact this x
     cases bV:aS.bg with
     | struct cv=>
       rw [bV] at he hu;simp only at he;cases aH:EN P cv.toList with
       | false=>rw [aH] at he;cases he
       | true=>
         rw [aH] at he;simp only [cond_true] at he;cases aA:ng (yv P cv) z.cells bm with
         | none=>rw [aA] at he;cases he
         | some cs=>
           rw [aA] at he;simp only [Option.some.injEq] at he;subst he
           let k:Field->Nat × Nat:=fun f=>(f.offset,((a_ P f.type).map (·.size)).getD 0)
           have nt:(cv.mapM fun f=>do pure (f.offset,<-sizeOf f.type):Sem (Array (Nat × Nat))).run P w=.ok (cv.map k) w:=by
            rw [Array.mapM_eq_mapM_toList,Sem.run_map,WA _ k w cv.toList]
            . simp only [Result.andThen_ok];congr 1;apply Array.ext';simp
            . intro f jX;have:=List.all_eq_true.1 aH f jX;cases y9:a_ P f.type with
              | none=>rw [y9] at this;simp at this
              | some kW=>simp only [Sem.run_bind,kq y9,Result.andThen_ok,Sem.run_pure,k,y9];rfl
           have afO:(fun i=>(cv.map k)[i]?)=yv P cv:=by
            funext i;simp only [yv,Array.getElem?_map];cases an:cv[i]? with
            | none=>rfl
            | some f=>
              have yU:f ∈ cv.toList:=by have:=List.mem_of_getElem? (l:=cv.toList) (i:=i) (a:=f) (by simpa using an);exact this
              have:=List.all_eq_true.1 aH f yU;cases y9:a_ P f.type with
              | none=>rw [y9] at this;simp at this
              | some kW=>simp [k,y9]
           obtain ⟨b,kB,p6⟩:=Bf (a:=x.cells) ag Tz aA;refine ⟨.agg b,?_,by simp only [Rel];exact ⟨b,rfl,p6⟩⟩;simp only [Instr.build,Sem.run_bind,ak,hu,Result.andThen_ok,nt];rw [afO];simp only [kB,Sem.run_pure]
     | array n e=>
       rw [bV] at he hu;simp only at he;cases cx:a_ P e with
       | none=>rw [cx] at he;cases he
       | some bb=>
         rw [cx] at he;simp only at he;cases aA:ng (fun i=>some (i * bb.size,bb.size)) z.cells bm with
         | none=>rw [aA] at he;cases he
         | some cs=>
           rw [aA] at he;simp only [Option.some.injEq] at he;subst he;obtain ⟨b,kB,p6⟩:=Bf (a:=x.cells) ag Tz aA;refine ⟨.agg b,?_,by simp only [Rel];exact ⟨b,rfl,p6⟩⟩;simp only [Instr.build,Sem.run_bind,ak,hu,Result.andThen_ok,kq cx,kB,Sem.run_pure]
     | _=>rw [bV] at he;cases he
theorem zO {E:Env} {z:List V} {l:Array Value} (bn:bk E z l.toList):∀n:Nat,bk E (hM z n) ((Array.range (n * l.size)).map (l[· % l.size]!)).toList:=by
 have af4:(List.range l.size).map (l[· % l.size]!)=l.toList:=by
  apply List.ext_getElem?;intro i;simp only [List.getElem?_map];by_cases an:i<l.size
  . rw [List.getElem?_range an];simp only [Option.map,Nat.mod_eq_of_lt an,Array.getElem?_toList];rw [getElem!_pos l i an,Array.getElem?_eq_getElem an]
  . rw [List.getElem?_eq_none (by simp;omega),Array.getElem?_toList,Array.getElem?_eq_none (by omega)];rfl
 intro n;simp only [Array.toList_map,Array.toList_range]
 induction n with
 | zero=>simp [hM,bk]
 | succ n br=>
   have e:(n+1) * l.size=l.size+n * l.size:=by rw [Nat.add_mul];omega
   rw [e,List.range_add,List.map_append,af4,List.map_map];have a':((l[· % l.size]!) ∘ fun x=>l.size+x)=(l[· % l.size]!):=by funext x;simp
   rw [a'];exact bn.append br
theorem tp {E:Env} {t:TypeId} {aS:n_} {z:V} (aw:a_ P t=some aS) (bn:aS.zero=some z) (w:World):∃x:Value,(∀w,(zeroValue t).run P w=.ok x w)/\bk E z.cells x.cells.toList/\x.cells.size=z.cells.length:=by
 obtain ⟨x,ak,_,nz⟩:=zS (P:=P) aw bn E w;obtain ⟨i,aa,_,_,_,_,dH⟩:=u2 aw;rw [bn] at dH;have wN:∃y,i.zero=some y:=by cases aC:i.zero with | none=>rw [aC] at dH;cases dH | some y=>exact ⟨y,rfl⟩
 obtain ⟨y,aZ⟩:=wN;have c2:∀w,(zeroValue t).run P w=.ok y w:=fun w=>by simp only [zeroValue,Sem.run_bind,zR aa,Result.andThen_ok,aZ];rfl
 have zf:y=x:=by have:=c2 w;rw [ak] at this;simp at this;exact this.symm
 subst zf;refine ⟨_,c2,?_,?_⟩
 . rw [nz];have:∀y:Value,bk E (hV y).cells y.cells.toList:=by
    intro y;cases y with
    | agg cs=>simp only [hV,V.cells,Value.cells];exact CF E _
    | pointer a=>cases a<;>simp [hV,j7,V.cells,Value.cells,bk,Rel]
    | slice a n c=>
      have:=uH E (.slice a n c);cases a with
      | some a=>simp [hV,j7,V.cells,Value.cells,bk,Rel]
      | none=>
        simp only [hV,j7] at this ⊢;cases ae:(Nat.beq n 0&&Nat.beq c 0) with
        | false=>simp [V.cells,Value.cells,bk,Rel]
        | true=>rw [ae] at this;simpa [V.cells,Value.cells,bk] using this
    | map r=>cases r<;>simp [hV,j7,V.cells,Value.cells,bk,Rel]
    | tuple cs=>
      have:=uH E (.tuple cs);simp only [hV,V.cells,Value.cells,bk] at this ⊢;exact ⟨_,_,rfl,this,rfl⟩
    | _=>simp [hV,j7,V.cells,Value.cells,bk,Rel]
   exact this _
 . rw [nz,ak5]
theorem aap {az:Fr} {E:Env} {h ab:ai} {w:World} (s:bf az E h w) {t:TypeId} {n:Nat} {bm:List (Nat × V)} {cy:List (Nat × Value)} {v:V} (ag:r7 E bm cy) (he:(vH P t n).run bm h=.val v ab):
 df az P E w (Instr.buildSlice t n cy.toArray) v ab:=by
 unfold vH at he;cases aw:a_ P t with
 | none=>rw [aw] at he;cases he
 | some aS=>
   rw [aw] at he;simp only at he;have hu:=fR aw;cases bV:aS.bg with
   | slice e=>
     rw [bV] at he hu;simp only at he;cases cx:a_ P e with
     | none=>rw [cx] at he;cases he
     | some bb=>
       rw [cx] at he;simp only at he;cases bn:bb.zero with
       | none=>rw [bn] at he;cases he
       | some z=>
         rw [bn] at he;simp only at he;cases aD:(Nat.ble (n * bb.size) 1000000&&Nat.beq z.cells.length bb.size) with
         | false=>rw [aD] at he;cases he
         | true=>
           rw [aD] at he;simp only [cond_true] at he;simp only [Bool.and_eq_true,Nat.ble_eq,Nat.beq_eq] at aD;cases aA:ng (fun i=>some (i * bb.size,bb.size)) (hM z.cells n) bm with
           | none=>rw [aA] at he;cases he
           | some cs=>
             rw [aA] at he;simp only at he;cases aV:gM h cs with
             | none=>rw [aV] at he;cases he
             | some aa=>
               rw [aV] at he;simp only [a8.val.injEq] at he;obtain ⟨rfl,rfl⟩:=he;obtain ⟨x,ak,ou,pg⟩:=tp (P:=P) (E:=E) cx bn w;have sQ:x.cells.size=bb.size:=by rw [pg,aD.2]
               have sK:=zO ou n;rw [sQ] at sK;obtain ⟨b,kB,p6⟩:=Bf (a:=(Array.range (n * bb.size)).map (x.cells[· % x.cells.size]!)) ag (by rw [sQ];exact sK) aA;obtain ⟨ax,g1,g2,g3,g4⟩:=Gi (P:=P) s p6 aV e;refine ⟨.slice (some ⟨w.heap.size,0,none⟩) n n,_,ax,?_,g1,?_,g4⟩
               . have wA:¬16777216<n * bb.size:=by omega
                 have kY:(newRow e b).run P w=.ok ⟨w.heap.size,0,none⟩ {w with heap:=w.heap.push (.cells b e)}:=by simpa using g3
                 by_cases aX:n * bb.size=0
                 . have JY:Instr.fill (fun i=>some (i * bb.size,bb.size)) ((Array.range (n * bb.size)).map ((#[]:Array Value)[· % 0]!)) cy=some b:=by
                    have aP:(Array.range (n * bb.size)).map ((#[]:Array Value)[· % 0]!)=(Array.range (n * bb.size)).map (x.cells[· % x.cells.size]!):=by rw [aX];simp
                    rw [aP];exact kB
                   have JZ:Instr.fill (fun i=>some (i * bb.size,bb.size)) ((Array.range (n * bb.size)).map (fun x=>(#[]:Array Value)[x % (#[]:Array Value).size]!)) cy=some b:=JY;simp only [Instr.buildSlice,Sem.run_bind,hu,Result.andThen_ok,kq cx,Sem.run_ite];rw [if_neg wA];simp only [Sem.run_pure,Result.andThen_ok,if_pos aX];rw [JZ];simp only [Sem.run_bind,kY,Result.andThen_ok,Sem.run_pure]
                 . simp only [Instr.buildSlice,Sem.run_bind,hu,Result.andThen_ok,kq cx,Sem.run_ite];rw [if_neg wA];simp only [Sem.run_pure,Result.andThen_ok,if_neg aX,ak];rw [kB];simp only [Sem.run_bind,kY,Result.andThen_ok,Sem.run_pure]
               . simp only [Rel];exact ⟨_,g2,Nat.le_refl _,by simp⟩
   | _=>rw [bV] at he;cases he
theorem ako {az:Fr} {E:Env} {h ab:ai} {w:World} (s:bf az E h w) {t:TypeId} {x y v:V} {X Y:Value} (ak:Rel E x X) (aZ:Rel E y Y) (he:(w5 P t).run x y h=.val v ab):
 df az P E w (Instr.makeSlice t X Y) v ab:=by
 unfold w5 at he;cases aw:a_ P t with
 | none=>rw [aw] at he;cases he
 | some aS=>
   rw [aw] at he;simp only at he;have hu:=fR aw;cases bV:aS.bg with
   | slice e=>
     rw [bV] at he hu;simp only at he;cases cx:a_ P e with
     | none=>rw [cx] at he;cases he
     | some bb=>
       rw [cx] at he;simp only at he;cases bn:bb.zero with
       | none=>rw [bn] at he;cases he
       | some z=>
         rw [bn] at he;simp only at he;cases wb:Nat.ble bb.bytes 4096 with
         | false=>rw [wb] at he;cases he
         | true=>
           rw [wb] at he;simp only [cond_true,s0] at he;obtain ⟨bA,l,rfl,yK⟩:=s7 he;obtain ⟨bx,c,rfl,et⟩:=s7 yK;have:=ak.jf;subst this;have:=aZ.jf;subst this;obtain ⟨aD,p7⟩:=jR et;simp only [Bool.and_eq_true,oC,decide_eq_true_eq,Nat.beq_eq] at aD;obtain ⟨⟨aX,aa,ad⟩,aJ⟩:=aD;rw [Nat.ble_eq] at wb;cases aV:gM h (hM z.cells c.toNat) with
           | none=>rw [aV] at p7;cases p7
           | some bl=>
             rw [aV] at p7;simp only [a8.val.injEq] at p7;obtain ⟨rfl,rfl⟩:=p7;obtain ⟨lI,wL,ou,pg⟩:=tp (P:=P) (E:=E) cx bn w;have sQ:lI.cells.size=bb.size:=by rw [pg,aJ]
             have sK:=zO ou c.toNat;obtain ⟨ax,g1,g2,g3,g4⟩:=Gi (P:=P) s sK aV e;obtain ⟨i,an,q_⟩:=GX (P:=P) cx w;have pf:IntKind.i64.wrap l=l:=by simp only [IntKind.wrap,IntKind.bits,IntKind.signed];simp;omega
             have K5:IntKind.i64.wrap c=c:=by simp only [IntKind.wrap,IntKind.bits,IntKind.signed];simp;omega
             have hmul:(bb.bytes:Int) * c<=4096 * 1000000:=by
              have ae:(bb.bytes:Int)<=4096:=by omega
              have:=Int.mul_le_mul_of_nonneg_right (c:=c) ae (by omega);omega
             refine ⟨.slice (some ⟨w.heap.size,0,none⟩) l.toNat c.toNat,_,ax,?_,g1,?_,g4⟩
             . have kY:=g3;simp only [Array.toArray_toList] at kY;have bP:¬c<0:=by omega
               have bY:¬((bb.bytes:Int) * c>281474976710656):=by omega
               have c3:¬l<0:=by omega
               have eV:¬l>c:=by omega
               have same:(if c.toNat * bb.size=0 then (Array.range (c.toNat * bb.size)).map (fun x=>(#[]:Array Value)[x % (#[]:Array Value).size]!) else (Array.range (c.toNat * bb.size)).map (fun x=>lI.cells[x % lI.cells.size]!))=
                (Array.range (c.toNat * lI.cells.size)).map (lI.cells[· % lI.cells.size]!):=by
                rw [sQ];by_cases aC:c.toNat * bb.size=0
                . rw [aC];simp
                . rw [if_neg aC]
               simp only [Instr.makeSlice,Sem.run_bind,hu,Result.andThen_ok,asInt,asIntOf,Sem.run_pure,an,pf,K5,q_];rw [if_neg (by simp only [Bool.or_eq_true,decide_eq_true_eq,not_or];exact ⟨⟨⟨bP,bY⟩,c3⟩,eV⟩)];simp only [Result.andThen_ok,Sem.run_bind,run_askRoom,kq cx];by_cases aC:c.toNat * bb.size=0
               . rw [if_pos aC] at same;rw [if_pos aC];simp only [Sem.run_pure,Result.andThen_ok,Sem.run_bind,same,kY,Array.toArray_toList]
               . rw [if_neg aC] at same;rw [if_neg aC];simp only [Sem.run_pure,Result.andThen_ok,Sem.run_bind,wL,same,kY,Array.toArray_toList]
             . simp only [Rel];exact ⟨_,g2,by omega,by simp⟩
   | _=>rw [bV] at he;cases he
end
theorem aQ.ln:∀{p q:aQ},aQ.gS p q=true->p=q
 | .z,.z,_=>rfl
 | .l p,.l q,h=>by rw [aQ.ln (p:=p) (q:=q) h]
 | .r p,.r q,h=>by rw [aQ.ln (p:=p) (q:=q) h]
 | .z,.l _,h=>by cases h
 | .z,.r _,h=>by cases h
 | .l _,.z,h=>by cases h
 | .l _,.r _,h=>by cases h
 | .r _,.z,h=>by cases h
 | .r _,.l _,h=>by cases h
theorem aQ.yn:∀p:aQ,aQ.gS p p=true
 | .z=>rfl
 | .l p=>aQ.yn p
 | .r p=>aQ.yn p
section
variable {P:Program}
theorem VH {az:Fr} {E:Env} {h:ai} {w:World} (s:bf az E h w) {b:aQ} {p:jN} (ag:E b=some p) (ae:(h.get b).zJ=true):(h.get b).own=true/\∃c t,w.heap[p.aM]? =some (.cells c t (0,0)):=by
 have aH:=s.at ag;cases aB:h.get b<;>rw [aB] at ae<;>try (cases ae;done)
 rename_i n cs cE st;rw [aB] at aH;obtain ⟨_,p',c,el,b4,aP,_,q',_,cR,_⟩:=aH;rw [ag] at aP;cases aP;have:st=false:=by simpa [cf.zJ] using ae
 rw [cR this] at q';exact ⟨rfl,c,el,q'⟩
theorem VY {t:TypeId} (h:jA P t=true):∃e j,P.underlying t=some (.pointer e)/\P.info? e=some j/\j.size≠0:=by
 unfold jA at h;cases aw:a_ P t with
 | none=>rw [aw] at h;cases h
 | some aS=>
   rw [aw] at h;simp only at h;cases hu:aS.bg<;>rw [hu] at h<;>simp only at h<;>try (cases h;done)
   rename_i e;cases he:a_ P e with
   | none=>rw [he] at h;cases h
   | some bb=>
     rw [he] at h;simp only at h;obtain ⟨_,_,ad,_⟩:=u2 aw;obtain ⟨j,g1,_,g3,_⟩:=u2 he;refine ⟨e,j,by rw [ad,hu],g1,fun c0=>?_⟩;rw [g3,c0] at h;cases h
theorem al5 {t:TypeId} (h:jA P t=true) (w:World):∃e,(underlying t).run P w=.ok (.pointer e) w:=by obtain ⟨e,_,aa,_⟩:=VY h;exact ⟨e,MR aa w⟩
theorem amP {t e:TypeId} {w:World} (hu:(underlying t).run P w=.ok (.pointer e) w) (b:Bool) (v:Value):(Instr.checkKey b 10000 t v).run P w=.ok () w:=by show (Instr.checkKey b (9999+1) t v).run P w=.ok () w;unfold Instr.checkKey;rw [Sem.run_bind,hu];rfl
theorem VW {az:Fr} {E:Env} {h:ai} {w:World} (s:bf az E h w) {t:TypeId} (aw:jA P t=true) {x y:V} {X Y:Value} {b:Bool} (he:ht h x y=some b) (ak:Rel E x X) (aZ:Rel E y Y):
 (∃a c,X=.pointer (some a)/\Y=.pointer (some c))/\∀d,(Op.equalIn (d+1) t X Y).run P w=.ok b w:=by
 obtain ⟨e,j,ag,cx,cr⟩:=VY aw;unfold ht at he
 split at he
 case h_2=>cases he
 rename_i cb c7
 split at he
 case h_2=>cases he
 rename_i b9 dq;simp only [Rel] at ak aZ;obtain ⟨p,je,rfl⟩:=ak;obtain ⟨q,h6,rfl⟩:=aZ;refine ⟨⟨_,_,rfl,rfl⟩,fun d=>?_⟩;cases heq:aQ.gS cb b9 with
 | true=>
   rw [heq] at he;simp only [cond_true,Option.some.injEq] at he;have:=aQ.ln heq;subst this;rw [je] at h6;cases h6;have ae:b=decide (c7=dq):=by
    rw [<-he];by_cases h:c7=dq
    . subst h;simp
    . rw [decide_eq_false h,<-Bool.not_eq_true,Nat.beq_eq];exact h
   have key:(sameAddr ⟨p.aM,p.base+c7,none⟩ ⟨p.aM,p.base+dq,none⟩).run P w=.ok b w:=by
    rw [ae];by_cases h:c7=dq
    . subst h;simpa using run_sameAddr_same w (⟨p.aM,p.base+c7,none⟩:Addr)
    . have cl:((⟨p.aM,p.base+c7,none⟩:Addr) == ⟨p.aM,p.base+dq,none⟩)=false:=by
       rw [beq_eq_false_iff_ne];intro e;injection e with _ a' _
       omega
      simp [sameAddr,cl,h]
   simp [Op.equalIn,run_underlying ag,sizeOf,typeInfo,cx,cr,key]
 | false=>
   rw [heq] at he;simp only [cond_false] at he;obtain ⟨aD,he⟩:=eI he;simp only [Bool.and_eq_true] at aD;cases he;obtain ⟨L8,bP,t1,q9⟩:=VH s je aD.1;obtain ⟨L9,bY,t2,Kj⟩:=VH s h6 aD.2;have cl:(⟨p.aM,p.base+c7,none⟩:Addr)≠⟨q.aM,q.base+dq,none⟩:=by
    intro e;injection e with aP _ _
    have:=s.inj cb b9 p q L8 L9 je h6 aP;subst this;rw [aQ.yn] at heq;cases heq
   simp [Op.equalIn,run_underlying ag,sizeOf,typeInfo,cx,cr,run_sameAddr_other w cl q9 Kj]
theorem VV {az:Fr} {E:Env} {h:ai} {w:World} (s:bf az E h w) {op:BinOp} {t:TypeId} {neg:Bool} (lZ:xl P op t=some neg) {x y:V} {fx hs:Operand} {X Y:Value} {b:Bool} (he:ht h x y=some b) (ak:Rel E x X) (aZ:Rel E y Y):
 ∃Z,(do eqGuard op t fx hs X Y;binOp op t X Y:Sem Value).run P w=.ok Z w/\Rel E (.bool (bif neg then !b else b)) Z:=by
 unfold xl at lZ;have main:jA P t=true->((op=.eql/\neg=false)\/(op=.neq/\neg=true))->∃Z,(do eqGuard op t fx hs X Y;binOp op t X Y:Sem Value).run P w=.ok Z w/\Rel E (.bool (bif neg then !b else b)) Z:=by
  intro aw hG;obtain ⟨⟨a,c,rfl,rfl⟩,c2⟩:=VW s aw he ak aZ;have aB:=fun (o:BinOp)=>ED (P:=P) (op:=o) (t:=t) (x:=fx) (y:=hs) (X:=.pointer (some a)) (Y:=.pointer (some c)) (by simp) (.inl (by simp)) w;have aP:(Op.equal t (.pointer (some a)) (.pointer (some c))).run P w=.ok b w:=c2 9999;rcases hG with ⟨rfl,rfl⟩ | ⟨rfl,rfl⟩
  . refine ⟨.bool b,?_,by simp [Rel]⟩;rw [Sem.run_bind,aB,Result.andThen_ok,binOp_eql (X:=.pointer (some a)) True.intro,Sem.run_bind,aP];rfl
  . refine ⟨.bool (!b),?_,by simp [Rel]⟩;rw [Sem.run_bind,aB,Result.andThen_ok,binOp_neq (X:=.pointer (some a)) True.intro,Sem.run_bind,aP];rfl
 cases op<;>simp only at lZ<;>try (cases lZ;done)
 . obtain ⟨aa,ad⟩:=eI lZ;cases ad;exact main aa (.inl ⟨rfl,rfl⟩)
 . obtain ⟨aa,ad⟩:=eI lZ;cases ad;exact main aa (.inr ⟨rfl,rfl⟩)
end
section
variable {P:Program}
def xY (P:Program) (w:World) (E:Env) (cG:TypeId) (e:dR):Prop:=
 ∀k bj K nW b,e.run k bj=some b->Rel E k K->Rel E bj nW->(Op.equal cG K nW).run P w=.ok b w/\(b=true->nW=K/\Instr.sameBits 10000 K K=true)
theorem al4 {az:Fr} {E:Env} {h:ai} {w:World} (s:bf az E h w) {cG:TypeId} (aw:jA P cG=true):xY P w E cG ⟨ht h⟩:=by
 intro k bj K nW b he ak aZ;obtain ⟨⟨a,c,rfl,rfl⟩,c2⟩:=VW s aw he ak aZ;refine ⟨c2 9999,fun ae=>?_⟩;subst ae;simp only [ht] at he
 split at he
 case h_2=>cases he
 split at he
 case h_2=>cases he
 rename_i cb c7 _ b9 dq;simp only [Rel] at ak aZ;obtain ⟨p,je,ak⟩:=ak;obtain ⟨q,h6,aZ⟩:=aZ;cases heq:aQ.gS cb b9 with
 | false=>
   rw [heq] at he;simp only [cond_false] at he;obtain ⟨_,he⟩:=eI he;cases he
 | true=>
   rw [heq] at he;simp only [cond_true,Option.some.injEq] at he;have:=aQ.ln heq;subst this;rw [je] at h6;cases h6;have:=Nat.eq_of_beq_eq_true he;subst this;rw [ak,aZ];exact ⟨rfl,by simp [Instr.sameBits]⟩
theorem RY {w:World} {E:Env} {cG:TypeId} {e:dR} (hn:xY P w E cG e) {k:V} {K:Value} (aH:Rel E k K):∀(es:List cL) (l:List MapEntry) (r:Option V) (i:Nat),nh e k es=some r->eH E es l->
 ∃R,(Instr.findAsking cG K l i).run P w=.ok R w/\(match r with
  | none=>R=none
  | some v=>∃j Y,R=some (j,Y)/\Rel E v Y)
 | [],l,r,i,h,aF=>by simp only [eH] at aF;subst aF;simp only [nh,Option.some.injEq] at h;subst h;exact ⟨none,rfl,rfl⟩
 | m::ms,l,r,i,h,aF=>by
   obtain ⟨dX,es,rfl,aa,ad,aJ,bE⟩:=aF;simp only [nh] at h;cases aR:e.run k m.k with
   | none=>rw [aR] at h;cases h
   | some b=>
     rw [aR] at h;simp only at h;obtain ⟨ar,av⟩:=hn _ _ _ _ _ aR aH aa;cases b with
     | true=>
       simp only [cond_true,Option.some.injEq] at h;subst h;exact ⟨some (i,dX.val),by simp [Instr.findAsking,ar],i,dX.val,rfl,ad⟩
     | false=>
       simp only [cond_false] at h;obtain ⟨R,g1,g2⟩:=RY hn aH ms es r (i+1) h bE;exact ⟨R,by simp [Instr.findAsking,ar,g1],g2⟩
theorem VZ {w:World} {E:Env} {cG:TypeId} {e:dR} (hn:xY P w E cG e) {k v:V} {K X:Value} (aH:Rel E k K) (bh:Rel E v X) (clock:Nat):∀(es:List cL) (l:List MapEntry) (r:List cL × Bool) (i:Nat),k8 e k v clock es=some r->eH E es l->
 (r.2=true->(Instr.findAsking cG K l i).run P w=.ok none w/\eH E r.1 (l++[⟨K,X,clock⟩]))/\
 (r.2=false->∃j dX Y,(Instr.findAsking cG K l i).run P w=.ok (some (i+j,Y)) w/\l[j]? =some dX/\Instr.sameBits 10000 dX.key K=true/\eH E r.1 (l.modify j fun dX=>{dX with key:=K,val:=X}))
 | [],l,r,i,h,aF=>by simp only [eH] at aF;subst aF;simp only [k8,Option.some.injEq] at h;subst h;exact ⟨fun _=>⟨rfl,_,_,rfl,aH,bh,rfl,rfl⟩,fun h=>by cases h⟩
 | m::ms,l,r,i,h,aF=>by
   obtain ⟨dX,es,rfl,aa,ad,aJ,bE⟩:=aF;simp only [k8] at h;cases aR:e.run k m.k with
   | none=>rw [aR] at h;cases h
   | some b=>
     rw [aR] at h;simp only at h;obtain ⟨ar,av⟩:=hn _ _ _ _ _ aR aH aa;cases b with
     | true=>
       simp only [cond_true,Option.some.injEq] at h;subst h;obtain ⟨aK,bU⟩:=av rfl;refine ⟨fun h=>(by cases h),fun _=>⟨0,dX,dX.val,by simp [Instr.findAsking,ar],rfl,by rw [aK];exact bU,?_⟩⟩;exact ⟨_,es,rfl,aH,bh,aJ,bE⟩
     | false=>
       simp only [cond_false] at h;cases ag:k8 e k v clock ms with
       | none=>rw [ag] at h;cases h
       | some bD=>
         rw [ag] at h;simp only [Option.some.injEq] at h;subst h;obtain ⟨g1,g2⟩:=VZ hn aH bh clock ms es bD (i+1) ag bE;refine ⟨fun h=>?_,fun h=>?_⟩
         . obtain ⟨bW,a2⟩:=g1 h;exact ⟨by simp [Instr.findAsking,ar,bW],⟨dX,es++[⟨K,X,clock⟩],rfl,aa,ad,aJ,a2⟩⟩
         . obtain ⟨j,cZ,Y,bW,a2,a3,a4⟩:=g2 h;exact ⟨j+1,cZ,Y,by simp [Instr.findAsking,ar,bW];omega,by simpa using a2,a3,⟨dX,_,rfl,aa,ad,aJ,a4⟩⟩
theorem amR {cG:TypeId} {hD:TypeId} {w:World} (hu:(underlying cG).run P w=.ok (.pointer hD) w) {K:Value} {l:List MapEntry} {R:Option (Nat × Value)} (h:(Instr.findAsking cG K l 0).run P w=.ok R w):
 (Instr.findKey cG K l).run P w=.ok R w:=by
 cases l with
 | nil=>
   simp only [Instr.findAsking,Sem.run_pure] at h;cases h;simp [Instr.findKey,hu,Instr.findNow]
 | cons dX es=>
   have aV:Instr.findNow (.pointer hD) K (dX::es) 0=none:=by simp [Instr.findNow,Instr.sameNow]
   simp [Instr.findKey,hu,aV,h]
theorem ac3 {x y:V} (h:vO x y=true):x=y:=by
 cases x<;>simp only [vO] at h<;>try (cases h;done)
 all_goals (cases y<;>simp only at h<;>try (cases h;done))
 . rw [beq_iff_eq] at h;rw [h]
 . simp only [Bool.and_eq_true,ln,beq_iff_eq] at h;rw [tR h.1,h.2]
 . rw [vD,beq_iff_eq] at h;rw [h]
theorem RL:∀{xs cY:List V},vP xs cY=true->xs=cY
 | [],[],_=>rfl
 | [],_::_,h=>by cases h
 | _::_,[],h=>by cases h
 | x::xs,y::cY,h=>by
   simp only [vP] at h;cases aa:vO x y with
   | false=>rw [aa] at h;cases h
   | true=>rw [aa] at h;rw [ac3 aa,RL h]
theorem ac2 {E:Env} {x:V} {X Y:Value} (h:vO x x=true) (b5:Rel E x X) (fN:Rel E x Y):X=Y/\∀n,Instr.sameBits n X X=true:=by
 cases x<;>simp only [vO] at h<;>try (cases h;done)
 . simp only [Rel] at b5 fN;subst b5 fN;exact ⟨rfl,fun n=>by cases n<;>simp [Instr.sameBits]⟩
 . simp only [Rel] at b5 fN;subst b5 fN;exact ⟨rfl,fun n=>by cases n<;>simp [Instr.sameBits]⟩
 . simp only [Rel] at b5 fN;subst b5 fN;exact ⟨rfl,fun n=>by cases n<;>simp [Instr.sameBits,bytes_beq]⟩
theorem RJ {E:Env}:∀{xs:List V} {l dT:List Value},vP xs xs=true->bk E xs l->bk E xs dT->l=dT/\∀n,((l.zip l).all fun (x,y)=>Instr.sameBits n x y)=true
 | [],l,dT,_,aa,ad=>by simp only [bk] at aa ad;subst aa ad;exact ⟨rfl,fun _=>rfl⟩
 | x::xs,l,dT,h,aa,ad=>by
   obtain ⟨y,cY,rfl,bW,a2⟩:=aa;obtain ⟨xN,arn,rfl,cb,b9⟩:=ad;simp only [vP] at h;cases aD:vO x x with
   | false=>rw [aD] at h;cases h
   | true=>
     rw [aD] at h;obtain ⟨rfl,ar⟩:=ac2 aD bW cb;obtain ⟨rfl,av⟩:=RJ h a2 b9;exact ⟨rfl,fun n=>by simp only [List.zip_cons_cons,List.all_cons,ar,av,Bool.and_self]⟩
theorem anG {w:World} {E:Env} {cG:TypeId}:xY P w E cG (structEq P cG):=by
 intro k bj K nW b he ak aZ;simp only [structEq] at he
 split at he
 case h_2=>cases he
 split at he
 case h_2=>cases he
 rename_i xs _ cY;cases aC:(h3 P 12 cG).run (.agg xs) (.agg cY) with
 | none=>rw [aC] at he;cases he
 | some c=>
   rw [aC] at he;have aR:=Js 12 Op.maxDepth cG _ _ K nW c (by decide) aC ak aZ w;cases c with
   | false=>
     simp only [cond_false,Option.some.injEq] at he;subst he;exact ⟨aR,fun h=>by cases h⟩
   | true=>
     simp only [cond_true] at he;cases ag:vP xs cY with
     | false=>rw [ag] at he;cases he
     | true=>
       rw [ag] at he;simp only [cond_true,Option.some.injEq] at he;subst he;refine ⟨aR,fun _=>?_⟩;have:=RL ag;subst this;simp only [Rel] at ak aZ;obtain ⟨a,rfl,aa⟩:=ak;obtain ⟨bu,rfl,ad⟩:=aZ;obtain ⟨e,q⟩:=RJ ag aa ad;have cZ:a=bu:=Array.toList_inj.1 e;subst cZ;exact ⟨rfl,by show Instr.sameBits (9999+1) _ _=true;simp only [Instr.sameBits,beq_self_eq_true,Bool.true_and];exact q _⟩
theorem run_checkKey_plain {bg:TypeDesc} (aA:k2 bg=true) {t:TypeId} {w:World} (hu:(underlying t).run P w=.ok bg w) (b:Bool) (n:Nat) (v:Value):(Instr.checkKey b (n+1) t v).run P w=.ok () w:=by
 unfold Instr.checkKey;rw [Sem.run_bind,hu];cases bg<;>simp only [k2] at aA<;>first
  | (cases aA;done)
  | rfl
theorem adz {w:World} {E:Env} {cs:List V} {a:Array Value} (a1:bk E cs a.toList) (b:Bool) (n:Nat):∀(cv:List Field),EM P cs cv=true->
 (do for f in cv do
      if f.name≠ "_" then Instr.checkKey b (n+1) f.type (<-part f.type a f.offset):Sem Unit).run P w=.ok () w:=by
 intro cv
 induction cv with
 | nil=>intro _;simp
 | cons f cv br=>
   intro h;simp only [EM] at h;cases aa:(qv P f.type f.offset).run cs with
   | none=>rw [aa] at h;cases h
   | some x=>
     rw [aa] at h;simp only at h;cases ad:a_ P f.type with
     | none=>rw [ad] at h;cases h
     | some kW=>
       rw [ad] at h;simp only at h;cases aJ:k2 kW.bg with
       | false=>rw [aJ] at h;cases h
       | true=>
         rw [aJ] at h;simp only [cond_true] at h;obtain ⟨X,b5,_⟩:=CO a1 aa w;have aH:=run_checkKey_plain (P:=P) aJ (fR ad w) b n X;have:=br h;by_cases aV:f.name= "_"
         . simpa [aV] using this
         . simpa [aV,b5,aH] using this
theorem anH {t:TypeId} (h:mh P t=true) (w:World):∃cv,(underlying t).run P w=.ok (.struct cv) w:=by
 unfold mh at h;cases aw:a_ P t with
 | none=>rw [aw] at h;cases h
 | some aS=>
   rw [aw] at h;simp only at h;have hu:=fR aw w;cases bV:aS.bg<;>rw [bV] at h<;>simp only at h<;>try (cases h;done)
   rw [bV] at hu;exact ⟨_,hu⟩
theorem amQ {t:TypeId} {k:V} (aB:nB P t k=true) {E:Env} {K:Value} (aH:Rel E k K) {w:World} (b:Bool):(Instr.checkKey b 10000 t K).run P w=.ok () w:=by
 unfold nB at aB;cases aw:a_ P t with
 | none=>rw [aw] at aB;cases aB
 | some aS=>
   rw [aw] at aB;simp only at aB;have hu:=fR aw w;cases bV:aS.bg<;>rw [bV] at aB<;>simp only at aB<;>try (cases aB;done)
   rename_i cv;rw [bV] at hu;cases k<;>simp only at aB<;>try (cases aB;done)
   rename_i cs;simp only [Rel] at aH;obtain ⟨a,rfl,a1⟩:=aH;show (Instr.checkKey b (9998+1+1) t (.agg a)).run P w=.ok () w;unfold Instr.checkKey;rw [Sem.run_bind,hu];have:=adz (P:=P) (w:=w) a1 b 9998 cv.toList aB;simp only [Result.andThen_ok,Array.forIn_toList] at this ⊢;exact this
theorem amS {cG:TypeId} {cv:Array Field} {w:World} (hu:(underlying cG).run P w=.ok (.struct cv) w) {K:Value} {l:List MapEntry} {R:Option (Nat × Value)} (h:(Instr.findAsking cG K l 0).run P w=.ok R w):
 (Instr.findKey cG K l).run P w=.ok R w:=by
 cases l with
 | nil=>
   simp only [Instr.findAsking,Sem.run_pure] at h;cases h;simp [Instr.findKey,hu,Instr.findNow]
 | cons dX es=>
   have aV:Instr.findNow (.struct cv) K (dX::es) 0=none:=by simp [Instr.findNow,Instr.sameNow]
   simp [Instr.findKey,hu,aV,h]
structure Af (P:Program) (w:World) (E:Env) (cG:TypeId) (e:dR) (K:Value):Prop where
 eq:xY P w E cG e
 check:∀b,(Instr.checkKey b 10000 cG K).run P w=.ok () w
 find:∀{l:List MapEntry} {R},(Instr.findAsking cG K l 0).run P w=.ok R w->(Instr.findKey cG K l).run P w=.ok R w
theorem Ij {az:Fr} {E:Env} {h:ai} {w:World} (s:bf az E h w) {cG:TypeId} (aw:jA P cG=true) (K:Value):Af P w E cG ⟨ht h⟩ K:=by obtain ⟨VD,nq⟩:=al5 aw w;exact ⟨al4 s aw,fun b=>amP nq b K,fun q=>amR nq q⟩
theorem Ik {w:World} {E:Env} {cG:TypeId} (aw:mh P cG=true) {k:V} (aB:nB P cG k=true) {K:Value} (aH:Rel E k K):Af P w E cG (structEq P cG) K:=by obtain ⟨cv,nq⟩:=anH aw w;exact ⟨anG,fun b=>amQ aB aH b,fun q=>amS nq q⟩
end
section
variable {P:Program}
theorem Ll {E:Env} {bg:TypeDesc} {k bj:V} {K nW:Value} {b:Bool} (he:(lz bg).run k bj=some b) (ak:Rel E k K) (aZ:Rel E bj nW):
 Instr.sameNow bg K nW=some b/\(b=true->nW=K/\∀n,Instr.sameBits n K K=true):=by
 cases bg<;>simp only [lz] at he<;>try (simp [dR.none] at he;done)
 case bool=>
  simp only [qU] at he;cases k<;>simp only at he<;>try (cases he;done)
  cases bj<;>simp only at he<;>try (cases he;done)
  simp only [Rel] at ak aZ;subst ak aZ;simp only [Option.some.injEq] at he;subst he;refine ⟨rfl,fun h=>?_⟩;rw [beq_iff_eq] at h;subst h;exact ⟨rfl,fun n=>by cases n<;>simp [Instr.sameBits]⟩
 case int iB=>
  simp only [oc] at he;obtain ⟨j,m,rfl,aa⟩:=ko he;clear he;obtain ⟨Cc,du,rfl,ad⟩:=ko aa;clear aa;obtain ⟨aH,h⟩:=eI ad;clear ad;have:=tR aH;subst this;simp only [Rel] at ak aZ;subst ak aZ;simp only [Option.some.injEq,ln] at h;subst h;refine ⟨by simp [Instr.sameNow],fun h=>?_⟩;rw [beq_iff_eq] at h;subst h;exact ⟨rfl,fun n=>by cases n<;>simp [Instr.sameBits]⟩
 case string=>
  simp only [vQ] at he;cases k<;>simp only at he<;>try (cases he;done)
  cases bj<;>simp only at he<;>try (cases he;done)
  simp only [Rel] at ak aZ;subst ak aZ;simp only [Option.some.injEq,vD] at he;subst he;refine ⟨by simp only [Instr.sameNow,bytes_beq],fun h=>?_⟩;rw [beq_iff_eq] at h;subst h;exact ⟨rfl,fun n=>by cases n<;>simp [Instr.sameBits,bytes_beq]⟩
theorem run_checkKey {bg:TypeDesc} (aA:k2 bg=true) {t:TypeId} {w:World} (hu:(underlying t).run P w=.ok bg w) (b:Bool) (v:Value):(Instr.checkKey b 10000 t v).run P w=.ok () w:=by
 show (Instr.checkKey b (9999+1) t v).run P w=.ok () w;unfold Instr.checkKey;rw [Sem.run_bind,hu];cases bg<;>simp only [k2] at aA<;>first
  | (cases aA;done)
  | rfl
theorem run_findKey {bg:TypeDesc} {t:TypeId} {w:World} (hu:(underlying t).run P w=.ok bg w) {K:Value} {l:List MapEntry} {R:Option (Nat × Value)} (h:Instr.findNow bg K l 0=some R):
 (Instr.findKey t K l).run P w=.ok R w:=by
 simp only [Instr.findKey,Sem.run_bind,hu,Result.andThen_ok,h,Sem.run_pure]
theorem R3 {E:Env} {bg:TypeDesc} {k:V} {K:Value} (aH:Rel E k K):∀(es:List cL) (l:List MapEntry) (r:Option V) (i:Nat),nh (lz bg) k es=some r->eH E es l->
 ∃R,Instr.findNow bg K l i=some R/\(match r with
  | none=>R=none
  | some v=>∃j Y,R=some (j,Y)/\Rel E v Y)
 | [],l,r,i,h,aF=>by simp only [eH] at aF;subst aF;simp only [nh,Option.some.injEq] at h;subst h;exact ⟨none,rfl,rfl⟩
 | m::ms,l,r,i,h,aF=>by
   obtain ⟨e,es,rfl,aa,ad,aJ,bE⟩:=aF;simp only [nh] at h;cases aR:(lz bg).run k m.k with
   | none=>rw [aR] at h;cases h
   | some b=>
     rw [aR] at h;simp only at h;obtain ⟨ar,av⟩:=Ll aR aH aa;cases b with
     | true=>
       simp only [cond_true,Option.some.injEq] at h;subst h;exact ⟨some (i,e.val),by simp only [Instr.findNow,ar],i,e.val,rfl,ad⟩
     | false=>
       simp only [cond_false] at h;obtain ⟨R,g1,g2⟩:=R3 aH ms es r (i+1) h bE;exact ⟨R,by simp only [Instr.findNow,ar,g1],g2⟩
theorem V3 {E:Env} {bg:TypeDesc} {k v:V} {K X:Value} (aH:Rel E k K) (bh:Rel E v X) (clock:Nat):∀(es:List cL) (l:List MapEntry) (r:List cL × Bool) (i:Nat),k8 (lz bg) k v clock es=some r->eH E es l->
 (r.2=true->Instr.findNow bg K l i=some none/\eH E r.1 (l++[⟨K,X,clock⟩]))/\
 (r.2=false->∃j e Y,Instr.findNow bg K l i=some (some (i+j,Y))/\l[j]? =some e/\Instr.sameBits 10000 e.key K=true/\eH E r.1 (l.modify j fun e=>{e with key:=K,val:=X}))
 | [],l,r,i,h,aF=>by simp only [eH] at aF;subst aF;simp only [k8,Option.some.injEq] at h;subst h;exact ⟨fun _=>⟨rfl,_,_,rfl,aH,bh,rfl,rfl⟩,fun h=>by cases h⟩
 | m::ms,l,r,i,h,aF=>by
   obtain ⟨e,es,rfl,aa,ad,aJ,bE⟩:=aF;simp only [k8] at h;cases aR:(lz bg).run k m.k with
   | none=>rw [aR] at h;cases h
   | some b=>
     rw [aR] at h;simp only at h;obtain ⟨ar,av⟩:=Ll aR aH aa;cases b with
     | true=>
       simp only [cond_true,Option.some.injEq] at h;subst h;obtain ⟨aK,bU⟩:=av rfl;refine ⟨fun h=>(by cases h),fun _=>⟨0,e,e.val,by simp only [Instr.findNow,ar,Nat.add_zero],rfl,by rw [aK];exact bU _,?_⟩⟩;exact ⟨_,es,rfl,aH,bh,aJ,bE⟩
     | false=>
       simp only [cond_false] at h;cases ag:k8 (lz bg) k v clock ms with
       | none=>rw [ag] at h;cases h
       | some bD=>
         rw [ag] at h;simp only [Option.some.injEq] at h;subst h;obtain ⟨g1,g2⟩:=V3 aH bh clock ms es bD (i+1) ag bE;refine ⟨fun h=>?_,fun h=>?_⟩
         . obtain ⟨bW,a2⟩:=g1 h;exact ⟨by simp only [Instr.findNow,ar,bW],⟨e,es++[⟨K,X,clock⟩],rfl,aa,ad,aJ,a2⟩⟩
         . obtain ⟨j,cZ,Y,bW,a2,a3,a4⟩:=g2 h;exact ⟨j+1,cZ,Y,by simp only [Instr.findNow,ar,bW];congr 3;omega,by simpa using a2,a3,e,_,rfl,aa,ad,aJ,a4⟩
theorem LF {az:Fr} {E:Env} {h:ai} {w:World} (s:bf az E h w) {x:V} {X:Value} {es:List cL} (he:s3 h x=some es) (ak:Rel E x X):
 (X=.map none/\es=[])\/∃r a clock,X=.map (some r)/\(getObj r).run P w=.ok (.map a clock) w/\eH E es a.toList:=by
 cases x<;>simp only [s3] at he<;>try (cases he;done)
 . simp only [Rel] at ak;exact .inl ⟨ak,by simpa using he.symm⟩
 . rename_i b;simp only [Rel] at ak;obtain ⟨p,ag,rfl⟩:=ak;have ae:=s.at ag;cases aB:h.get b<;>rw [aB] at he<;>simp only [cf.j9] at he<;>try (cases he;done)
   simp only [Option.some.injEq] at he;subst he;rw [aB] at ae;obtain ⟨q,a,aa,_,aJ,bE⟩:=ae;rw [ag] at aa;cases aa;exact .inr ⟨p.aM,a,_,rfl,by simp only [getObj,Sem.run,aJ];rfl,bE⟩
theorem R0 {bg:TypeDesc} {K:Value}:∀{l:List MapEntry} {i:Nat},(∀e ∈ l,Instr.sameNow bg K e.key=some false)->Instr.findNow bg K l i=some none
 | [],_,_=>rfl
 | e::es,i,h=>by simp only [Instr.findNow,h e (by simp)];exact R0 fun cZ eW=>h cZ (by simp [eW])
theorem R1 {bg:TypeDesc} {K:Value}:∀{l:List MapEntry} {i:Nat},(∀e ∈ l,∃b,Instr.sameNow bg K e.key=some b)->(∃e ∈ l,Instr.sameNow bg K e.key=some true)->
 ∃j,∃e ∈ l,Instr.sameNow bg K e.key=some true/\Instr.findNow bg K l i=some (some (j,e.val))
 | [],_,_,h=>by obtain ⟨e,he,_⟩:=h;simp at he
 | e::es,i,aa,ad=>by
   obtain ⟨b,ae⟩:=aa e (by simp);cases b with
   | true=>exact ⟨i,e,by simp,ae,by simp only [Instr.findNow,ae]⟩
   | false=>
     obtain ⟨cZ,eW,aw⟩:=ad;simp only [List.mem_cons] at eW;rcases eW with rfl | eW
     . rw [ae] at aw;cases aw
     . obtain ⟨j,a',ar,av,aK⟩:=R1 (i:=i+1) (fun x ak=>aa x (by simp [ak])) ⟨cZ,eW,aw⟩;exact ⟨j,a',by simp [ar],av,by simp only [Instr.findNow,ae,aK]⟩
theorem R2 {E:Env} {bg:TypeDesc} {k:V} {K:Value} (aH:Rel E k K):∀(es:List cL) (l:List MapEntry) (r:Option V),sr (lz bg) k es=some r->oa E es l->
 (∀e ∈ l,∃b,Instr.sameNow bg K e.key=some b)/\(match r with
  | none=>∀e ∈ l,Instr.sameNow bg K e.key=some false
  | some v=>(∃e ∈ l,Instr.sameNow bg K e.key=some true)/\∀e ∈ l,Instr.sameNow bg K e.key=some true->Rel E v e.val)
 | [],l,r,h,aF=>by simp only [oa] at aF;subst aF;simp only [sr,Option.some.injEq] at h;subst h;exact ⟨fun e he=>by simp at he,fun e he=>by simp at he⟩
 | m::ms,l,r,h,aF=>by
   obtain ⟨e,es,rfl,aa,ad,bE⟩:=aF;simp only [sr] at h;cases aA:sr (lz bg) k ms with
   | none=>rw [aA] at h;cases h
   | some bD=>
     rw [aA] at h;simp only at h;obtain ⟨g1,g2⟩:=R2 aH ms es bD aA bE;cases aR:(lz bg).run k m.k with
     | none=>rw [aR] at h;cases h
     | some b=>
       rw [aR] at h;simp only at h;obtain ⟨ar,_⟩:=Ll aR aH aa;have J5:∀cZ ∈ e::es,∃b,Instr.sameNow bg K cZ.key=some b:=by
        intro cZ eW;rcases List.mem_cons.1 eW with rfl | eW
        . exact ⟨b,ar⟩
        . exact g1 cZ eW
       refine ⟨J5,?_⟩;cases b with
       | true=>
         simp only [cond_true] at h;cases bD with
         | some _=>cases h
         | none=>
           simp only [Option.some.injEq] at h;subst h;refine ⟨⟨e,by simp,ar⟩,fun cZ eW aw=>?_⟩;rcases List.mem_cons.1 eW with rfl | eW
           . exact ad
           . have:=g2 cZ eW;rw [aw] at this;cases this
       | false=>
         simp only [cond_false,Option.some.injEq] at h;subst h;cases bD with
         | none=>
           intro cZ eW;rcases List.mem_cons.1 eW with rfl | eW
           . exact ar
           . exact g2 cZ eW
         | some v=>
           obtain ⟨⟨c0,e7,fJ⟩,y3⟩:=g2;refine ⟨⟨c0,by simp [e7],fJ⟩,fun cZ eW aw=>?_⟩;rcases List.mem_cons.1 eW with rfl | eW
           . rw [ar] at aw;cases aw
           . exact y3 cZ eW aw
theorem ads {E:Env} {bg:TypeDesc} {k:V} {K:Value} (aH:Rel E k K) {es:List cL} {l a:List MapEntry} {r:Option V} (h:sr (lz bg) k es=some r) (aF:oa E es l) (ag:l.Perm a):
 ∃R,Instr.findNow bg K a 0=some R/\(match r with
  | none=>R=none
  | some v=>∃j Y,R=some (j,Y)/\Rel E v Y):=by
 obtain ⟨aa,ad⟩:=R2 aH es l r h aF;have hm:∀e,e ∈ a↔e ∈ l:=fun e=>ag.mem_iff.symm;cases r with
 | none=>exact ⟨none,R0 fun e he=>ad e ((hm e).1 he),rfl⟩
 | some v=>
   obtain ⟨⟨c0,e7,fJ⟩,y3⟩:=ad;obtain ⟨j,e,ar,av,aK⟩:=R1 (i:=0) (fun e he=>aa e ((hm e).1 he)) ⟨c0,(hm c0).2 e7,fJ⟩;exact ⟨_,aK,j,e.val,rfl,y3 e ((hm e).1 ar) av⟩
theorem akf {e:dR} {z:V} {ok:Bool} {h:ai} {x k v:V} (he:rz e z ok h x k=some v):
 jx e z ok h x k=some v\/∃b es r,x=.map b/\h.get b=.j4 es/\sr e k es=some r/\v=(match r with
  | some u=>bif ok then .tuple [u,.bool true] else u
  | none=>bif ok then .tuple [z,.bool false] else z):=by
 unfold rz at he;cases x<;>simp only at he<;>try (exact .inl he)
 rename_i b;cases aB:h.get b<;>rw [aB] at he<;>simp only at he<;>try (exact .inl he)
 rename_i es;cases aA:sr e k es with
 | none=>rw [aA] at he;cases he
 | some r=>
   rw [aA] at he;refine .inr ⟨b,es,r,rfl,aB,aA,?_⟩;cases r<;>simp only [Option.some.injEq] at he<;>exact he.symm
theorem ake {az:Fr} {E:Env} {h:ai} {w:World} (s:bf az E h w) {t:TypeId} {ok:Bool} {x k v:V} {X K:Value} (ak:Rel E x X) (aH:Rel E k K) (he:(F' P t ok).run h x k=some v):
 ∃Z,(Instr.lookup t X K ok).run P w=.ok Z w/\Rel E v Z:=by
 unfold F' at he;cases aw:a_ P t with
 | none=>rw [aw] at he;cases he
 | some aS=>
   rw [aw] at he;simp only at he;have hu:=fR aw w;cases bV:aS.bg<;>rw [bV] at he<;>simp only at he<;>try (cases he;done)
   rename_i cG hD;rw [bV] at hu;cases om:a_ P cG with
   | none=>rw [om] at he;cases he
   | some gU=>
     rw [om] at he;simp only at he;cases het:a_ P hD with
     | none=>rw [het] at he;cases he
     | some bb=>
       rw [het] at he;simp only at he;cases bn:bb.zero with
       | none=>rw [bn] at he;cases he
       | some z=>
         rw [bn] at he;simp only at he;cases aA:k2 gU.bg with
         | false=>
           rw [aA] at he;simp only [cond_false] at he;have ua:∃e,Af P w E cG e K/\jx e z ok h x k=some v:=by
            cases pd:jA P cG with
            | true=>
              rw [pd] at he;exact ⟨_,Ij s pd K,he⟩
            | false=>
              rw [pd] at he;simp only [cond_false] at he;cases cR:mh P cG with
              | false=>rw [cR] at he;cases he
              | true=>
                rw [cR] at he;simp only [cond_true] at he;obtain ⟨aB,he⟩:=eI he;exact ⟨_,Ik cR aB aH,he⟩
           clear he;obtain ⟨e,ask,he⟩:=ua;obtain ⟨u_,nz,mE,_⟩:=zS (P:=P) het bn E w;simp only [jx] at he;cases hm:s3 h x with
           | none=>rw [hm] at he;cases he
           | some es=>
             rw [hm] at he;simp only at he;cases wk:nh e k es with
             | none=>rw [wk] at he;cases he
             | some r=>
               rw [wk] at he;simp only at he;have main:∀(l:List MapEntry),eH E es l->∃R,(Instr.findKey cG K l).run P w=.ok R w/\
                ((R=none/\Rel E v (if ok=true then .tuple #[u_,.bool false] else u_))\/∃j Y,R=some (j,Y)/\Rel E v (if ok=true then .tuple #[Y,.bool true] else Y)):=by
                intro l ay;obtain ⟨R,g1,g2⟩:=RY ask.eq aH es l r 0 wk ay;refine ⟨R,ask.find g1,?_⟩;cases r with
                | none=>
                  simp only at g2 he;refine .inl ⟨g2,?_⟩;simp only [Option.some.injEq] at he;subst he;cases ok
                  . exact mE
                  . simp only [cond_true,if_true,Rel,bk];exact ⟨_,rfl,_,_,rfl,mE,_,_,rfl,rfl,rfl⟩
                | some u=>
                  simp only at g2 he;obtain ⟨j,Y,cN,fN⟩:=g2;refine .inr ⟨j,Y,cN,?_⟩;simp only [Option.some.injEq] at he;subst he;cases ok
                  . exact fN
                  . simp only [cond_true,if_true,Rel,bk];exact ⟨_,rfl,_,_,rfl,fN,_,_,rfl,rfl,rfl⟩
               rcases LF (P:=P) s hm ak with ⟨rfl,rfl⟩ | ⟨bq,a,clock,rfl,fj,wB⟩
               . obtain ⟨R,g1,g2⟩:=main [] rfl;have iP:=ask.check true;rcases g2 with ⟨rfl,g3⟩ | ⟨j,Y,rfl,g3⟩
                 all_goals
                  refine ⟨_,?_,g3⟩;simp only [Instr.lookup,Sem.run_bind,hu,Result.andThen_ok,Sem.run_pure];have aP:(#[]:Array MapEntry).isEmpty=true:=rfl;rw [aP,iP,Result.andThen_ok,g1,Result.andThen_ok];simp only [Sem.run_bind,nz,Result.andThen_ok,Sem.run_pure]
               . obtain ⟨R,g1,g2⟩:=main a.toList wB;have iP:=ask.check a.isEmpty;rcases g2 with ⟨rfl,g3⟩ | ⟨j,Y,rfl,g3⟩
                 all_goals
                  refine ⟨_,?_,g3⟩;simp only [Instr.lookup,Sem.run_bind,hu,Result.andThen_ok,Sem.run_pure,fj];rw [iP,Result.andThen_ok,g1,Result.andThen_ok];simp only [Sem.run_bind,nz,Result.andThen_ok,Sem.run_pure]
         | true=>
           rw [aA] at he;simp only [cond_true] at he;obtain ⟨u_,nz,mE,_⟩:=zS (P:=P) het bn E w;have nq:=fR om w;rcases akf he with he | ⟨b,es,r,rfl,aB,ae8,rfl⟩
           case inr=>
            simp only [Rel] at ak;obtain ⟨p,ag,rfl⟩:=ak;have ae:=s.at ag;rw [aB] at ae;obtain ⟨p',a,c,l,gL,_,bl,age,agf⟩:=ae;rw [ag] at gL;cases gL;obtain ⟨R,g1,g2⟩:=ads aH ae8 age agf;have fj:(getObj p.aM).run P w=.ok (.map a c) w:=by simp only [getObj,Sem.run,bl]
            have iP:=run_checkKey (P:=P) aA nq a.isEmpty K;have ES:=run_findKey nq g1;cases r with
            | none=>
              simp only at g2;subst g2;refine ⟨if ok=true then .tuple #[u_,.bool false] else u_,?_,?_⟩
              . simp only [Instr.lookup,Sem.run_bind,hu,Result.andThen_ok,Sem.run_pure,fj];rw [iP,Result.andThen_ok,ES,Result.andThen_ok];simp only [Sem.run_bind,nz,Result.andThen_ok,Sem.run_pure]
              . cases ok
                . exact mE
                . simp only [cond_true,if_true,Rel,bk];exact ⟨_,rfl,_,_,rfl,mE,_,_,rfl,rfl,rfl⟩
            | some u=>
              simp only at g2;obtain ⟨j,Y,rfl,fN⟩:=g2;refine ⟨if ok=true then .tuple #[Y,.bool true] else Y,?_,?_⟩
              . simp only [Instr.lookup,Sem.run_bind,hu,Result.andThen_ok,Sem.run_pure,fj];rw [iP,Result.andThen_ok,ES,Result.andThen_ok];simp only [Sem.run_bind,Sem.run_pure,Result.andThen_ok]
              . cases ok
                . exact fN
                . simp only [cond_true,if_true,Rel,bk];exact ⟨_,rfl,_,_,rfl,fN,_,_,rfl,rfl,rfl⟩
           simp only [jx] at he;cases hm:s3 h x with
           | none=>rw [hm] at he;cases he
           | some es=>
             rw [hm] at he;simp only at he;cases wk:nh (lz gU.bg) k es with
             | none=>rw [wk] at he;cases he
             | some r=>
               rw [wk] at he;simp only at he;have main:∀(l:List MapEntry),eH E es l->∃R,(Instr.findKey cG K l).run P w=.ok R w/\
                ((R=none/\Rel E v (if ok=true then .tuple #[u_,.bool false] else u_))\/∃j Y,R=some (j,Y)/\Rel E v (if ok=true then .tuple #[Y,.bool true] else Y)):=by
                intro l ay;obtain ⟨R,g1,g2⟩:=R3 aH es l r 0 wk ay;refine ⟨R,run_findKey nq g1,?_⟩;cases r with
                | none=>
                  simp only at g2 he;refine .inl ⟨g2,?_⟩;simp only [Option.some.injEq] at he;subst he;cases ok
                  . exact mE
                  . simp only [cond_true,if_true,Rel,bk];exact ⟨_,rfl,_,_,rfl,mE,_,_,rfl,rfl,rfl⟩
                | some u=>
                  simp only at g2 he;obtain ⟨j,Y,cN,fN⟩:=g2;refine .inr ⟨j,Y,cN,?_⟩;simp only [Option.some.injEq] at he;subst he;cases ok
                  . exact fN
                  . simp only [cond_true,if_true,Rel,bk];exact ⟨_,rfl,_,_,rfl,fN,_,_,rfl,rfl,rfl⟩
               rcases LF (P:=P) s hm ak with ⟨rfl,rfl⟩ | ⟨bq,a,clock,rfl,fj,wB⟩
               . obtain ⟨R,g1,g2⟩:=main [] rfl;have iP:=run_checkKey (P:=P) aA nq true K;rcases g2 with ⟨rfl,g3⟩ | ⟨j,Y,rfl,g3⟩
                 all_goals
                  refine ⟨_,?_,g3⟩;simp only [Instr.lookup,Sem.run_bind,hu,Result.andThen_ok,Sem.run_pure];have aP:(#[]:Array MapEntry).isEmpty=true:=rfl;rw [aP,iP,Result.andThen_ok,g1,Result.andThen_ok];simp only [Sem.run_bind,nz,Result.andThen_ok,Sem.run_pure]
               . obtain ⟨R,g1,g2⟩:=main a.toList wB;have iP:=run_checkKey (P:=P) aA nq a.isEmpty K;rcases g2 with ⟨rfl,g3⟩ | ⟨j,Y,rfl,g3⟩
                 all_goals
                  refine ⟨_,?_,g3⟩;simp only [Instr.lookup,Sem.run_bind,hu,Result.andThen_ok,Sem.run_pure,fj];rw [iP,Result.andThen_ok,g1,Result.andThen_ok];simp only [Sem.run_bind,nz,Result.andThen_ok,Sem.run_pure]
theorem XI {az:Fr} {E:Env} {h ab:ai} {w:World} (s:bf az E h w) {t:TypeId} {x k v:V} {X K Y:Value} (ak:Rel E x X) (aH:Rel E k K) (bh:Rel E v Y) (he:(pJ P t).run h x k v=some ab):
 ∃ao,(Instr.mapUpdate t X K Y).run P w=.ok () ao/\bf az E ab ao:=by
 unfold pJ at he;cases aw:a_ P t with
 | none=>rw [aw] at he;cases he
 | some aS=>
   rw [aw] at he;simp only at he;have hu:=fR aw w;cases bV:aS.bg<;>rw [bV] at he<;>simp only at he<;>try (cases he;done)
   rename_i cG hD;rw [bV] at hu;cases om:a_ P cG with
   | none=>rw [om] at he;cases he
   | some gU=>
     rw [om] at he;simp only at he;cases aA:k2 gU.bg with
     | false=>
       rw [aA] at he;simp only [cond_false] at he;have ua:∃e,Af P w E cG e K/\k_ e h x k v=some ab:=by
        cases pd:jA P cG with
        | true=>
          rw [pd] at he;exact ⟨_,Ij s pd K,he⟩
        | false=>
          rw [pd] at he;simp only [cond_false] at he;cases cR:mh P cG with
          | false=>rw [cR] at he;cases he
          | true=>
            rw [cR] at he;simp only [cond_true] at he;obtain ⟨aB,he⟩:=eI he;exact ⟨_,Ik cR aB aH,he⟩
       clear he;obtain ⟨e,ask,he⟩:=ua;cases x<;>simp only [k_] at he<;>try (cases he;done)
       rename_i b;simp only [Rel] at ak;obtain ⟨p,ag,rfl⟩:=ak;have ae:=s.at ag;cases aB:h.get b<;>rw [aB] at he<;>simp only [cf.j9] at he<;>try (cases he;done)
       rename_i es clock;rw [aB] at ae;obtain ⟨q,a,aa,c_,aJ,bE⟩:=ae;rw [ag] at aa;cases aa;cases wF:k8 e k v clock es with
       | none=>rw [wF] at he;cases he
       | some r=>
         rw [wF] at he;simp only [Option.some.injEq] at he;subst he;have fj:(getObj p.aM).run P w=.ok (.map a clock) w:=by simp only [getObj,Sem.run,aJ]
         have iP:=ask.check false;have lY:=(Array.getElem?_eq_some_iff.1 aJ).1;have A9:∀(bu:Array MapEntry) (fX:Nat),eH E r.1 bu.toList->fX=(bif r.2 then clock+1 else clock)->
          ∃ao,(setObj p.aM (.map bu fX)).run P w=.ok () ao/\bf az E (h.set b (.mp r.1 (bif r.2 then clock+1 else clock))) ao:=by
          intro bu fX hm aD;refine ⟨{w with heap:=w.heap.setIfInBounds p.aM (.map bu fX)},by simp only [setObj,Sem.run,aJ],s.set (p:=p) (by rw [aB];rfl) ag c_ (by simp) (fun j aU=>?_) rfl rfl rfl (fun _ _ _ e=>by cases e) ?_⟩
          . simp only [Array.getElem?_setIfInBounds];rw [if_neg (fun e=>aU e.symm)]
          . exact ⟨p,bu,ag,c_,by simp [lY,aD],hm⟩
         obtain ⟨g1,g2⟩:=VZ ask.eq aH bh clock es a.toList r 0 wF bE;cases l0:r.2 with
         | true=>
           obtain ⟨bW,a2⟩:=g1 l0;obtain ⟨ao,d1,d2⟩:=A9 (a.push ⟨K,Y,clock⟩) (clock+1) (by simpa using a2) (by rw [l0];rfl);rw [l0] at d2;refine ⟨ao,?_,d2⟩;simp only [Instr.mapUpdate,Sem.run_bind,hu,Result.andThen_ok,fj,iP,ask.find bW,d1]
         | false=>
           obtain ⟨j,dX,Zf,bW,a2,a3,a4⟩:=g2 l0;obtain ⟨ao,d1,d2⟩:=A9 (a.modify j fun dX=>{dX with key:=K,val:=Y}) clock (by simpa using a4) (by rw [l0];rfl);rw [l0] at d2;refine ⟨ao,?_,d2⟩;rw [Nat.zero_add] at bW;have aP:a[j]? =some dX:=by simpa using a2
           simp only [Instr.mapUpdate,Sem.run_bind,hu,Result.andThen_ok,fj,iP,ask.find bW,aP,Option.map,Option.getD,Instr.keyThatStays,a3,if_true,Sem.run_pure,d1]
     | true=>
       rw [aA] at he;simp only [cond_true] at he;have nq:=fR om w;cases x<;>simp only [k_] at he<;>try (cases he;done)
       rename_i b;simp only [Rel] at ak;obtain ⟨p,ag,rfl⟩:=ak;have ae:=s.at ag;cases aB:h.get b<;>rw [aB] at he<;>simp only [cf.j9] at he<;>try (cases he;done)
       rename_i es clock;rw [aB] at ae;obtain ⟨q,a,aa,c_,aJ,bE⟩:=ae;rw [ag] at aa;cases aa;cases wF:k8 (lz gU.bg) k v clock es with
       | none=>rw [wF] at he;cases he
       | some r=>
         rw [wF] at he;simp only [Option.some.injEq] at he;subst he;have fj:(getObj p.aM).run P w=.ok (.map a clock) w:=by simp only [getObj,Sem.run,aJ]
         have iP:=run_checkKey (P:=P) aA nq false K;have lY:=(Array.getElem?_eq_some_iff.1 aJ).1;have done:∀(bu:Array MapEntry) (fX:Nat),eH E r.1 bu.toList->fX=(bif r.2 then clock+1 else clock)->
          ∃ao,(setObj p.aM (.map bu fX)).run P w=.ok () ao/\bf az E (h.set b (.mp r.1 (bif r.2 then clock+1 else clock))) ao:=by
          intro bu fX hm aD;refine ⟨{w with heap:=w.heap.setIfInBounds p.aM (.map bu fX)},by simp only [setObj,Sem.run,aJ],s.set (p:=p) (by rw [aB];rfl) ag c_ (by simp) (fun j aU=>?_) rfl rfl rfl (fun _ _ _ e=>by cases e) ?_⟩
          . simp only [Array.getElem?_setIfInBounds];rw [if_neg (fun e=>aU e.symm)]
          . exact ⟨p,bu,ag,c_,by simp [lY,aD],hm⟩
         obtain ⟨g1,g2⟩:=V3 aH bh clock es a.toList r 0 wF bE;cases l0:r.2 with
         | true=>
           obtain ⟨bW,a2⟩:=g1 l0;obtain ⟨ao,d1,d2⟩:=done (a.push ⟨K,Y,clock⟩) (clock+1) (by simpa using a2) (by rw [l0];rfl);rw [l0] at d2;refine ⟨ao,?_,d2⟩;simp only [Instr.mapUpdate,Sem.run_bind,hu,Result.andThen_ok,fj,iP,run_findKey nq bW,d1]
         | false=>
           obtain ⟨j,e,Zf,bW,a2,a3,a4⟩:=g2 l0;obtain ⟨ao,d1,d2⟩:=done (a.modify j fun e=>{e with key:=K,val:=Y}) clock (by simpa using a4) (by rw [l0];rfl);rw [l0] at d2;refine ⟨ao,?_,d2⟩;rw [Nat.zero_add] at bW;have aP:a[j]? =some e:=by simpa using a2
           simp only [Instr.mapUpdate,Sem.run_bind,hu,Result.andThen_ok,fj,iP,run_findKey nq bW,aP,Option.map,Option.getD,Instr.keyThatStays,a3,if_true,Sem.run_pure,d1]
theorem UT {az:Fr} {E:Env} {h ab:ai} {w:World} (s:bf az E h w) {v:V} (he:zt h=.val v ab):df az P E w (do pure (.map (some (<-newObj (.map #[] 0))))) v ab:=by
 unfold zt at he;simp only [a8.val.injEq] at he;obtain ⟨rfl,rfl⟩:=he;have dI:=s.fresh h.next (Nat.le_refl _)
 have dZ:E.put (aj h.next) ⟨w.heap.size,0,0⟩ (aj h.next)=some ⟨w.heap.size,0,0⟩:=by unfold Env.put;rw [if_pos rfl]
 refine ⟨.map (some w.heap.size),{w with heap:=w.heap.push (.map #[] 0)},_,?_,Env.l' (p:=⟨w.heap.size,0,0⟩) dI,?_,s.alloc 0 ?_⟩
 . simp only [Sem.run_bind,run_newObj,Result.andThen_ok,Sem.run_pure]
 . simp only [Rel];exact ⟨_,dZ,rfl⟩
 . exact ⟨_,#[],dZ,s.frame.size,by simp,rfl⟩
theorem akn {az:Fr} {E:Env} {h ab:ai} {w:World} (s:bf az E h w) {t:TypeId} {x:Option V} {X:Option Value} {v:V} (ak:ik E x X) (he:zs P t x h=.val v ab):df az P E w (Instr.makeMap t X) v ab:=by
 unfold zs at he;cases aw:a_ P t with
 | none=>rw [aw] at he;cases he
 | some aS=>
   rw [aw] at he;simp only at he;have hu:=fR aw;cases ae:Nat.beq (fl aS.bg) 3 with
   | false=>rw [ae] at he;cases he
   | true=>
     rw [ae] at he;simp only [cond_true] at he;cases x with
     | none=>
       have:X=none:=by cases X with | none=>rfl | some _=>simp [ik] at ak
       subst this;simp only [sZ] at he;have:=UT (P:=P) s he;exact this
     | some u=>
       simp only [sZ] at he;obtain ⟨di,n,rfl,aa⟩:=s7 he;obtain ⟨Y,rfl,fN⟩:∃Y,X=some Y/\Rel E (.int di n) Y:=by
        cases X with
        | none=>simp [ik] at ak
        | some Y=>simp only [ik] at ak;obtain ⟨apr,aa,ad⟩:=ak;cases aa;exact ⟨_,rfl,ad⟩
       have:=fN.jf;subst this;obtain ⟨Z,ao,ax,ar,av⟩:=UT (P:=P) s aa;refine ⟨Z,ao,ax,?_,av⟩;cases bV:aS.bg<;>rw [bV] at ae<;>simp [fl] at ae;have hu:=hu w;rw [bV] at hu;simp only [Instr.makeMap,Sem.run_bind,hu,Result.andThen_ok,asInt,Sem.run_pure];exact ar
theorem ajR {az:Fr} {E:Env} {h ab:ai} {w:World} (s:bf az E h w) {t:TypeId} {aS:n_} (aw:a_ P t=some aS) (hm:uv aS.bg=true) {x v:V} {X:Value} (ak:Rel E x X) (ty:TypeId) (rest:List TypeId)
 (he:Cn [x] h=.val v ab):df az P E w (Builtin.len_ (t::rest).toArray ty #[X]) v ab:=by
 simp only [Cn] at he;cases aR:s3 h x with
 | none=>rw [aR] at he;cases he
 | some es=>
   rw [aR] at he;simp only [a8.val.injEq] at he;obtain ⟨rfl,rfl⟩:=he;have hu:=fR aw w;cases bV:aS.bg<;>rw [bV] at hm<;>simp [uv] at hm;rw [bV] at hu;rcases LF (P:=P) s aR ak with ⟨rfl,rfl⟩ | ⟨bq,a,clock,rfl,fj,wB⟩
   . refine df.plain (Z:=goInt 0) s ?_ (by simp [Rel,goInt]);simp [Builtin.len_,hu]
   . have hlen:∀(ms:List cL) (l:List MapEntry),eH E ms l->l.length=ms.length:=by
      intro ms
      induction ms with
      | nil=>intro l h;simp only [eH] at h;subst h;rfl
      | cons m ms br=>intro l h;obtain ⟨e,es,rfl,_,_,_,bE⟩:=h;simp [br _ bE]
     refine df.plain (Z:=goInt a.size) s ?_ ?_
     . simp [Builtin.len_,hu,fj]
     . have:=hlen _ _ wB;simp only [Array.length_toList] at this;simp [Rel,goInt,this]
end
section
variable {P:Program}
theorem RW {E:Env} {v:V} {Y:Value} (bh:Rel E v Y) {n:Nat}:∀(es:List cL) (l:List MapEntry) (r:List cL),sq n v es=some r->eH E es l->
 ∃j,l.findIdx? (fun e=>(e.born:Int) == (n:Int))=some j/\eH E r (l.modify j fun e=>{e with val:=Y})
 | [],l,r,h,aF=>by cases h
 | m::ms,l,r,h,aF=>by
   obtain ⟨e,es,rfl,aa,ad,aJ,bE⟩:=aF;simp only [sq] at h;cases ae:Nat.beq m.born n with
   | true=>
     rw [ae] at h;simp only [cond_true,Option.some.injEq] at h;subst h;have aV:=Nat.eq_of_beq_eq_true ae;refine ⟨0,by simp [List.findIdx?_cons,aJ,aV],?_⟩;exact ⟨_,es,rfl,aa,bh,aJ,bE⟩
   | false=>
     rw [ae] at h;simp only [cond_false] at h;cases aA:sq n v ms with
     | none=>rw [aA] at h;cases h
     | some bD=>
       rw [aA] at h;simp only [Option.some.injEq] at h;subst h;obtain ⟨j,g1,g2⟩:=RW bh ms es bD aA bE;have cl:¬((e.born:Int) == (n:Int))=true:=by
        rw [aJ];intro aC;have y0:(m.born:Int)=(n:Int):=by simpa using aC
        have afT:m.born=n:=by omega
        rw [afT,Nat.beq_refl] at ae;cases ae
       refine ⟨j+1,by simp only [List.findIdx?_cons,cl];simp [g1],⟨e,_,by simp [List.modify],aa,ad,aJ,g2⟩⟩
theorem acY {az:Fr} {E:Env} {h ab:ai} {w:World} (s:bf az E h w) {t:TypeId} {x st v:V} {X S Y:Value} (ak:Rel E x X) (cR:Rel E st S) (bh:Rel E v Y) (he:tQ h x st v=some ab):
 ∃ao,(Instr.entryStore t X S Y).run P w=.ok () ao/\bf az E ab ao:=by
 unfold tQ at he
 split at he
 case h_2=>cases he
 rename_i b
 split at he
 case h_2=>cases he
 rename_i di m
 split at he
 case h_2=>cases he
 rename_i n;simp only [Rel] at ak cR;obtain ⟨p,ag,rfl⟩:=ak;subst cR;have ae:=s.at ag;cases aB:h.get b<;>rw [aB] at he<;>simp only [cf.j9] at he<;>try (cases he;done)
 rename_i es clock;rw [aB] at ae;obtain ⟨q,a,aa,c_,aJ,bE⟩:=ae;rw [ag] at aa;cases aa;cases aA:sq n v es with
 | none=>rw [aA] at he;cases he
 | some r=>
   rw [aA] at he;simp only [Option.some.injEq] at he;subst he;obtain ⟨j,g1,g2⟩:=RW bh es a.toList r aA bE;have fj:(getObj p.aM).run P w=.ok (.map a clock) w:=by simp only [getObj,Sem.run,aJ]
   have lY:=(Array.getElem?_eq_some_iff.1 aJ).1;have ES:a.findIdx? (fun e=>(e.born:Int) == (n:Int))=some j:=by rw [<-g1];cases a with | mk Ck=>simp
   have a1:(asInt (.int di (Int.ofNat n))).run P w=.ok (n:Int) w:=by simp [asInt,asIntOf]
   refine ⟨{w with heap:=w.heap.setIfInBounds p.aM (.map (a.modify j fun e=>{e with val:=Y}) clock)},?_,s.set (p:=p) (by rw [aB];rfl) ag c_ (by simp) (fun j aU=>?_) rfl rfl rfl (fun _ _ _ e=>by cases e) ?_⟩
   . simp only [Instr.entryStore,Sem.run_bind,fj,Result.andThen_ok,a1,ES,setObj,Sem.run,aJ]
   . simp only [Array.getElem?_setIfInBounds];rw [if_neg (fun e=>aU e.symm)]
   . exact ⟨p,a.modify j fun e=>{e with val:=Y},ag,c_,by simp [lY],by rw [Array.toList_modify];exact g2⟩
theorem RZ {w:World} {E:Env} {cG:TypeId} {e:dR} (hn:xY P w E cG e) {k:V} {K:Value} (aH:Rel E k K):∀(es:List cL) (l:List MapEntry) (r:Option cL) (i:Nat),q1 e k es=some r->eH E es l->
 (r=none->(Instr.findAsking cG K l i).run P w=.ok none w)/\
 (∀m,r=some m->∃j dX,(Instr.findAsking cG K l i).run P w=.ok (some (i+j,dX.val)) w/\l[j]? =some dX/\dX.key=K/\Rel E m.v dX.val/\dX.born=m.born/\Instr.sameBits 10000 K K=true/\eH E es (l.modify j fun dX=>{dX with key:=K}))
 | [],l,r,i,h,aF=>by simp only [eH] at aF;subst aF;simp only [q1,Option.some.injEq] at h;subst h;exact ⟨fun _=>rfl,fun m hm=>by cases hm⟩
 | m::ms,l,r,i,h,aF=>by
   obtain ⟨dX,es,rfl,aa,ad,aJ,bE⟩:=aF;simp only [q1] at h;cases aR:e.run k m.k with
   | none=>rw [aR] at h;cases h
   | some b=>
     rw [aR] at h;simp only at h;obtain ⟨ar,av⟩:=hn _ _ _ _ _ aR aH aa;cases b with
     | true=>
       simp only [cond_true,Option.some.injEq] at h;subst h;obtain ⟨aK,bU⟩:=av rfl;refine ⟨fun h=>(by cases h),fun du hm=>?_⟩;cases hm;exact ⟨0,dX,by simp [Instr.findAsking,ar],rfl,aK,ad,aJ,bU,⟨_,es,rfl,by rw [<-aK];exact aa,ad,aJ,bE⟩⟩
     | false=>
       simp only [cond_false] at h;obtain ⟨g1,g2⟩:=RZ hn aH ms es r (i+1) h bE;refine ⟨fun h=>by simp [Instr.findAsking,ar,g1 h],fun du hm=>?_⟩;obtain ⟨j,acV,bW,a2,a3,a4,a5,gx,qP⟩:=g2 du hm;exact ⟨j+1,acV,by simp [Instr.findAsking,ar,bW];omega,by simpa using a2,a3,a4,a5,gx,⟨dX,_,rfl,aa,ad,aJ,qP⟩⟩
theorem UG {az:Fr} {E:Env} {h ab:ai} {w:World} (s:bf az E h w) {t cG hD:TypeId} (hu:(underlying t).run P w=.ok (.map cG hD) w) {e:dR} {z:V} {Z:Value} (bn:(zeroValue hD).run P w=.ok Z w) (mE:Rel E z Z)
 {x k v:V} {X K:Value} (ak:Rel E x X) (aH:Rel E k K) (ask:Af P w E cG e K) (he:w6 e z h x k=some (v,ab)):df az P E w (Instr.mapEntry t X K) v ab:=by
 unfold w6 at he
 split at he
 case h_2=>cases he
 rename_i b;simp only [Rel] at ak;obtain ⟨p,ag,rfl⟩:=ak;have ae:=s.at ag;cases aB:h.get b<;>rw [aB] at he<;>simp only [cf.j9] at he<;>try (cases he;done)
 rename_i es clock;rw [aB] at ae;obtain ⟨q,a,aa,c_,aJ,bE⟩:=ae;rw [ag] at aa;cases aa;have fj:(getObj p.aM).run P w=.ok (.map a clock) w:=by simp only [getObj,Sem.run,aJ]
 have iP:=ask.check false;have lY:=(Array.getElem?_eq_some_iff.1 aJ).1;have A9:∀(gy:List cL) (bu:Array MapEntry) (fX:Nat),eH E gy bu.toList->
  ∃ao,(setObj p.aM (.map bu fX)).run P w=.ok () ao/\bf az E (h.set b (.mp gy fX)) ao:=by
  intro gy bu fX hm;refine ⟨{w with heap:=w.heap.setIfInBounds p.aM (.map bu fX)},by simp only [setObj,Sem.run,aJ],s.set (p:=p) (by rw [aB];rfl) ag c_ (by simp) (fun j aU=>?_) rfl rfl rfl (fun _ _ _ e=>by cases e) ?_⟩
  . simp only [Array.getElem?_setIfInBounds];rw [if_neg (fun e=>aU e.symm)]
  . exact ⟨p,bu,ag,c_,by simp [lY],hm⟩
 cases aA:q1 e k es with
 | none=>rw [aA] at he;cases he
 | some r=>
   rw [aA] at he;simp only at he;obtain ⟨g1,g2⟩:=RZ ask.eq aH es a.toList r 0 aA bE;cases r with
   | none=>
     simp only [Option.some.injEq,Prod.mk.injEq] at he;obtain ⟨rfl,rfl⟩:=he;have bW:=ask.find (g1 rfl);obtain ⟨ao,d1,d2⟩:=A9 (es++[⟨k,z,clock⟩]) (a.push ⟨K,Z,clock⟩) (clock+1) (by
      have:∀(es:List cL) (l:List MapEntry),eH E es l->eH E (es++[⟨k,z,clock⟩]) (l++[⟨K,Z,clock⟩]):=by
       intro es
       induction es with
       | nil=>intro l ay;simp only [eH] at ay;subst ay;exact ⟨_,_,rfl,aH,mE,rfl,rfl⟩
       | cons m ms br=>intro l ay;obtain ⟨dX,gy,rfl,cb,b9,e3,iv⟩:=ay;exact ⟨dX,_,rfl,cb,b9,e3,br _ iv⟩
      simpa using this es a.toList bE)
     refine ⟨.tuple #[Z,goInt clock],ao,E,?_,Env.le.refl E,?_,d2⟩
     . simp only [Instr.mapEntry,Sem.run_bind,hu,Result.andThen_ok,fj,iP,bW,bn,d1,Sem.run_pure]
     . simp only [Rel,bk];exact ⟨_,rfl,_,_,rfl,mE,_,_,rfl,rfl,rfl⟩
   | some m=>
     simp only [Option.some.injEq,Prod.mk.injEq] at he;obtain ⟨rfl,rfl⟩:=he;obtain ⟨j,dX,bW,a2,a3,a4,a5,gx,qP⟩:=g2 m rfl;rw [Nat.zero_add] at bW;have cb:=ask.find bW;have aP:a[j]? =some dX:=by simpa using a2
     obtain ⟨ao,d1,d2⟩:=A9 es (a.modify j fun dX=>{dX with key:=K}) clock (by rw [Array.toList_modify];exact qP);refine ⟨.tuple #[dX.val,goInt dX.born],ao,E,?_,Env.le.refl E,?_,d2⟩
     . simp only [Instr.mapEntry,Sem.run_bind,hu,Result.andThen_ok,fj,iP,cb,aP,Option.map,Option.getD,a3,Instr.keyThatStays,gx,if_true,Sem.run_pure,d1]
     . simp only [Rel,bk];exact ⟨_,rfl,_,_,rfl,a4,_,_,rfl,by rw [a5];rfl,rfl⟩
theorem akr {az:Fr} {E:Env} {h ab:ai} {w:World} (s:bf az E h w) {t:TypeId} {x k v:V} {X K:Value} (ak:Rel E x X) (aH:Rel E k K) (he:(Gd P t).run x k h=.val v ab):df az P E w (Instr.mapEntry t X K) v ab:=by
 unfold Gd at he;cases aw:a_ P t with
 | none=>rw [aw] at he;cases he
 | some aS=>
   rw [aw] at he;simp only at he;have hu:=fR aw w;cases bV:aS.bg<;>rw [bV] at he<;>simp only at he<;>try (cases he;done)
   rename_i cG hD;rw [bV] at hu;cases het:a_ P hD with
   | none=>rw [het] at he;cases he
   | some bb=>
     rw [het] at he;simp only at he;cases bn:bb.zero with
     | none=>rw [bn] at he;cases he
     | some z=>
       rw [bn] at he;simp only at he;obtain ⟨u_,nz,mE,_⟩:=zS (P:=P) het bn E w;cases pd:jA P cG with
       | true=>
         rw [pd] at he;simp only [cond_true,ym] at he;cases hm:w6 ⟨ht h⟩ z h x k with
         | none=>rw [hm] at he;cases he
         | some r=>
           rw [hm] at he;simp only [a8.val.injEq] at he;obtain ⟨rfl,rfl⟩:=he;exact UG s hu nz mE ak aH (Ij s pd K) hm
       | false=>
         rw [pd] at he;simp only [cond_false] at he;cases cR:mh P cG with
         | false=>rw [cR] at he;cases he
         | true=>
           rw [cR] at he;simp only [cond_true,EB] at he;cases aB:nB P cG k with
           | false=>rw [aB] at he;cases he
           | true=>
             rw [aB] at he;simp only [cond_true] at he;cases hm:w6 (structEq P cG) z h x k with
             | none=>rw [hm] at he;cases he
             | some r=>
               rw [hm] at he;simp only [a8.val.injEq] at he;obtain ⟨rfl,rfl⟩:=he;exact UG s hu nz mE ak aH (Ik cR aB aH) hm
end
section
variable {P:Program}
theorem Sz (n:Nat):∀(l:List Nat),t_ l n=true↔n ∈ l
 | []=>by simp [t_]
 | x::xs=>by
   simp only [t_];cases ae:Nat.beq x n with
   | true=>have:=Nat.eq_of_beq_eq_true ae;subst this;simp
   | false=>
     have cl:x≠n:=fun e=>by subst e;rw [Nat.beq_refl] at ae;cases ae
     simp [Sz n xs,Ne.symm cl]
theorem aez {a:Array Nat} {seen:List Nat} (h:a.toList=seen.reverse) (n:Nat):a.contains n=t_ seen n:=by rw [Bool.eq_iff_iff,Sz,Array.contains_iff_mem,<-Array.mem_toList_iff,h,List.mem_reverse]
theorem Ul {E:Env} {a:Array Nat} {seen:List Nat} (h:a.toList=seen.reverse):∀(ms:List cL) (l:List MapEntry),eH E ms l->eH E (leftOf seen ms) (l.filter fun e=>!a.contains e.born)
 | [],l,aF=>by simp only [eH] at aF;subst aF;rfl
 | m::ms,l,aF=>by
   obtain ⟨e,es,rfl,aa,ad,aJ,bE⟩:=aF;have br:=Ul h ms es bE;have aC:a.contains e.born=t_ seen m.born:=by rw [aez h,aJ]
   cases ae:t_ seen m.born with
   | true=>
     rw [ae] at aC;rw [List.filter_cons_of_neg (by rw [aC];decide)];simp only [leftOf,ae,cond_true];exact br
   | false=>
     rw [ae] at aC;rw [List.filter_cons_of_pos (by rw [aC];decide)];simp only [leftOf,ae,cond_false];exact ⟨e,_,rfl,aa,ad,aJ,br⟩
theorem O2 {E:Env} {last:Nat}:∀(ms:List cL) (l:List MapEntry),eH E ms l->l.all (fun e=>decide (e.born>=last))=x4 last ms
 | [],l,aF=>by simp only [eH] at aF;subst aF;rfl
 | m::ms,l,aF=>by
   obtain ⟨e,es,rfl,aa,ad,aJ,bE⟩:=aF;simp only [x4,List.all_cons,O2 ms es bE,aJ];cases ae:Nat.ble last m.born with
   | true=>rw [Nat.ble_eq] at ae;simp [ae]
   | false=>
     have:¬last<=m.born:=by rw [<-Nat.ble_eq,ae];simp
     simp [this]
theorem Pv {E:Env} {n:Nat}:∀(ms:List cL) (l:List MapEntry) (m:cL),eH E ms l->AY n ms=some m->∃e,l.find? (fun e=>e.born == n)=some e/\Rel E m.k e.key/\Rel E m.v e.val
 | [],l,m,aF,h=>by cases h
 | x::xs,l,m,aF,h=>by
   obtain ⟨e,es,rfl,aa,ad,aJ,bE⟩:=aF;simp only [AY] at h;cases ae:Nat.beq x.born n with
   | true=>
     rw [ae] at h;simp only [cond_true,Option.some.injEq] at h;subst h;have:=Nat.eq_of_beq_eq_true ae;exact ⟨e,by simp [List.find?_cons,aJ,this],aa,ad⟩
   | false=>
     rw [ae] at h;simp only [cond_false] at h;obtain ⟨cZ,g1,g2⟩:=Pv xs es m bE h;have cl:x.born≠n:=fun e=>by rw [e,Nat.beq_refl] at ae;cases ae
     exact ⟨cZ,by simp [List.find?_cons,aJ,cl,g1],g2⟩
theorem L3 {k:cf} {f:List cL->Nat->a8} {v:V} {ab:ai} (h:k.j9 .fail f=.val v ab):∃es clock,k=.mp es clock/\f es clock=.val v ab:=by
 cases k<;>simp only [cf.j9] at h<;>first
  | (cases h;done)
  | exact ⟨_,_,rfl,h⟩
theorem Vl {v:V} {f:aQ->Nat->a8} {r:V} {ab:ai} (h:v.jz .fail f=.val r ab):∃b off,v=.ptr b off/\f b off=.val r ab:=by
 cases v<;>simp only [V.jz] at h<;>first
  | (cases h;done)
  | exact ⟨_,_,rfl,h⟩
theorem amo {az:Fr} {E:Env} {h ab:ai} {w:World} (s:bf az E h w) {t cG hD:TypeId} (hu:(underlying t).run P w=.ok (.map cG hD) w) {x v:V} {X:Value} (ak:Rel E x X) (he:rangeMap x h=.val v ab):df az P E w (Instr.range t X) v ab:=by
 have dI:=s.fresh h.next (Nat.le_refl _)
 have dZ:E.put (aj h.next) ⟨w.heap.size,0,0⟩ (aj h.next)=some ⟨w.heap.size,0,0⟩:=by unfold Env.put;rw [if_pos rfl]
 unfold rangeMap at he
 split at he
 . simp only [a8.val.injEq] at he;obtain ⟨rfl,rfl⟩:=he;simp only [Rel] at ak;subst ak;refine ⟨.pointer (some ⟨w.heap.size,0,none⟩),{w with heap:=w.heap.push (.mapIter none 0 #[] 0)},_,?_,Env.l' (p:=⟨w.heap.size,0,0⟩) dI,?_,s.alloc 0 ?_⟩
   . simp only [Instr.range,Sem.run_bind,hu,Result.andThen_ok,Sem.run_pure,run_newObj]
   . simp only [Rel];exact ⟨_,dZ,by simp⟩
   . exact ⟨_,none,#[],dZ,s.frame.size,rfl,by simp,rfl,rfl⟩
 . rename_i c;obtain ⟨es,clock,aB,he⟩:=L3 he;simp only [a8.val.injEq] at he;obtain ⟨rfl,rfl⟩:=he;simp only [Rel] at ak;obtain ⟨p,ag,rfl⟩:=ak;have ae:=s.at ag;rw [aB] at ae;obtain ⟨q,a,aa,c_,aJ,bE⟩:=ae;rw [ag] at aa;cases aa;have fj:(getObj p.aM).run P w=.ok (.map a clock) w:=by simp only [getObj,Sem.run,aJ]
   have hle:E.le (E.put (aj h.next) ⟨w.heap.size,0,0⟩):=Env.l' dI;refine ⟨.pointer (some ⟨w.heap.size,0,none⟩),{w with heap:=w.heap.push (.mapIter (some p.aM) clock #[] clock)},_,?_,hle,?_,s.alloc 0 ?_⟩
   . simp only [Instr.range,Sem.run_bind,hu,Result.andThen_ok,Sem.run_pure,fj,run_newObj]
   . simp only [Rel];exact ⟨_,dZ,by simp⟩
   . exact ⟨_,some p.aM,#[],dZ,s.frame.size,rfl,by simp,rfl,p,hle _ _ ag,rfl⟩
 . cases he
theorem akF {az:Fr} {E:Env} {h ab:ai} {w:World} (s:bf az E h w) {x v:V} {X:Value} {ty:TypeId} (ak:Rel E x X) (he:hf x h=.val v ab):df az P E w (Instr.next X false ty) v ab:=by
 unfold hf at he;obtain ⟨b,off,rfl,aa⟩:=Vl he;clear he;have ae:=s.at (p:=_) (by simp only [Rel] at ak;exact ak.choose_spec.1);cases aB:h.get b<;>rw [aB] at aa<;>simp only at aa<;>try (cases aa;done)
 rename_i src since seen last;rw [aB] at ae;cases aX:Nat.beq off 0 with
 | false=>rw [aX] at aa;cases aa
 | true=>
 rw [aX] at aa;simp only [cond_true] at aa;have aX:=Nat.eq_of_beq_eq_true aX;subst aX;obtain ⟨p,m,a,ag,c_,oh,bl,a1,kj⟩:=ae;simp only [Rel] at ak;obtain ⟨q,aC,rfl⟩:=ak;rw [ag] at aC;cases aC;have fj:(getObj p.aM).run P w=.ok (.mapIter m since a last) w:=by simp only [getObj,Sem.run,bl]
 have over:Rel E (.tuple [.bool false]) (.tuple #[.bool false]):=by simp only [Rel,bk];exact ⟨_,rfl,_,_,rfl,rfl,rfl⟩
 cases src with
 | none=>
   simp only [vs] at kj;subst kj;simp only [a8.val.injEq] at aa;obtain ⟨rfl,rfl⟩:=aa;refine df.plain (Z:=.tuple #[.bool false]) s ?_ over;simp only [Instr.next,oh,Sem.run_bind,fj,Result.andThen_ok,Sem.run_pure]
 | some c=>
   simp only [vs] at kj;obtain ⟨zH,qd,rfl⟩:=kj;simp only at aa;obtain ⟨es,clock,Ki,aa⟩:=L3 aa;have ub:=s.at qd;rw [Ki] at ub;obtain ⟨q,nF,g1,_,g3,g4⟩:=ub;rw [qd] at g1;cases g1;have Fe:(getObj zH.aM).run P w=.ok (.map nF clock) w:=by simp only [getObj,Sem.run,g3]
   cases aD:(!seen.isEmpty&&(!es.isEmpty&&x4 last es)) with
   | true=>rw [aD] at aa;cases aa
   | false=>
     rw [aD] at aa;simp only [cond_false] at aa;have aP:a.isEmpty=seen.isEmpty:=by
      have:a.toList.isEmpty=seen.reverse.isEmpty:=by rw [a1]
      simpa using this
     have a':nF.isEmpty=es.isEmpty:=by
      cases es with
      | nil=>simp only [eH] at g4;have:nF=#[]:=Array.toList_inj.1 g4
             simp [this]
      | cons y cY=>obtain ⟨e,l,ay,_⟩:=g4;have:nF.toList.isEmpty=false:=by rw [ay];rfl
                   simpa using this
     have cM:nF.all (fun e=>decide (e.born>=last))=x4 last es:=by rw [<-O2 es _ g4,Array.all_toList]
     have SH:(!a.isEmpty&&!nF.isEmpty&&nF.all (fun e=>decide (e.born>=last)))=false:=by rw [aP,a',cM,Bool.and_assoc];exact aD
     have BC:=Ul (E:=E) a1 es _ g4;have SM:(nF.filter fun e=>!a.contains e.born).toList=nF.toList.filter fun e=>!a.contains e.born:=by simp
     cases ay:leftOf seen es with
     | nil=>
       rw [ay] at aa BC;simp only [LR,a8.val.injEq] at aa;obtain ⟨rfl,rfl⟩:=aa;simp only [eH] at BC;have sw:(nF.filter fun e=>!a.contains e.born)=#[]:=by apply Array.toList_inj.1;rw [SM,BC]
       refine df.plain (Z:=.tuple #[.bool false]) s ?_ over;simp only [Instr.next,oh,Sem.run_bind,fj,Result.andThen_ok,Fe,SH,Bool.false_eq_true,if_false,sw,Sem.run_pure];simp [choose,Sem.run,Question.forced]
     | cons y cY=>
       rw [ay] at aa BC;cases cY with
       | cons _ _=>cases aa
       | nil=>
         simp only [LR] at aa;cases aO:Nat.blt y.born since with
         | false=>rw [aO] at aa;cases aa
         | true=>
           rw [aO] at aa;simp only [cond_true,a8.val.injEq] at aa;obtain ⟨rfl,rfl⟩:=aa;rw [Nat.blt_eq] at aO;obtain ⟨e,r,aF,bA,bx,c4,dp⟩:=BC;simp only [eH] at dp;subst dp;have sw:(nF.filter fun e=>!a.contains e.born)=#[e]:=by apply Array.toList_inj.1;rw [SM,aF]
           rw [<-c4] at aO ⊢
           let ck:Obj:=.mapIter (some zH.aM) since (a.push e.born) clock
           let ao:World:={w with heap:=w.heap.setIfInBounds p.aM ck}
           have lY:=(Array.getElem?_eq_some_iff.1 bl).1;have sL:(setObj p.aM ck).run P w=.ok () ao:=by simp only [setObj,Sem.run,bl];rfl
           have ug:¬since<=e.born:=by omega
           refine ⟨.tuple #[.bool true,e.key,e.val],ao,E,?_,Env.le.refl E,?_,s.set (p:=p) (by rw [aB];rfl) ag c_ (by simp [ao]) (fun j aU=>?_) rfl rfl rfl (fun _ _ _ e=>by cases e) ?_⟩
           . simp only [Instr.next,oh,Sem.run_bind,fj,Result.andThen_ok,Fe,SH,Bool.false_eq_true,if_false,sw,Sem.run_pure];have aa:(#[e]:Array MapEntry).filter (fun x=>decide (x.born<since))=#[e]:=by simp [aO]
             have ad:(#[e]:Array MapEntry).filter (fun x=>decide (x.born>=since))=#[]:=by simp [aO]
             have mv:(choose (.mapNext 1)).run P w=.ok 0 w:=by simp [choose,Sem.run,Question.forced]
             simp only [aa,ad];simp [mv];change ((setObj p.aM ck).run P w).andThen _=_;rw [sL];rfl
           . simp only [Rel,bk];exact ⟨_,rfl,_,_,rfl,rfl,_,_,rfl,bA,_,_,rfl,bx,rfl⟩
           . simp only [ao,Array.getElem?_setIfInBounds];rw [if_neg (fun e=>aU e.symm)]
           . exact ⟨p,some zH.aM,a.push e.born,ag,c_,oh,by simp [ao,lY,ck],by simp [a1],zH,qd,rfl⟩
theorem acZ {az:Fr} {E:Env} {h ab:ai} {w:World} (s:bf az E h w) {x v:V} {X:Value} (ak:Rel E x X) (he:Bb x h=.val v ab):df az P E w (Instr.entry X) v ab:=by
 unfold Bb at he;obtain ⟨b,off,rfl,aa⟩:=Vl he;clear he;have ae:=s.at (p:=_) (by simp only [Rel] at ak;exact ak.choose_spec.1);cases aB:h.get b<;>rw [aB] at aa<;>simp only at aa<;>try (cases aa;done)
 rename_i src since seen last;rw [aB] at ae;cases aX:Nat.beq off 0 with
 | false=>rw [aX] at aa;cases aa
 | true=>
 rw [aX] at aa;simp only [cond_true] at aa;have aX:=Nat.eq_of_beq_eq_true aX;subst aX;obtain ⟨p,m,a,ag,c_,oh,bl,a1,kj⟩:=ae;simp only [Rel] at ak;obtain ⟨q,aC,rfl⟩:=ak;rw [ag] at aC;cases aC;have fj:(getObj p.aM).run P w=.ok (.mapIter m since a last) w:=by simp only [getObj,Sem.run,bl]
 cases src with
 | none=>cases aa
 | some c=>
   simp only [vs] at kj;obtain ⟨zH,qd,rfl⟩:=kj;simp only at aa;cases seen with
   | nil=>cases aa
   | cons n ef=>
   simp only at aa;obtain ⟨es,clock,Ki,aa⟩:=L3 aa;have ub:=s.at qd;rw [Ki] at ub;obtain ⟨q,nF,g1,_,g3,g4⟩:=ub;rw [qd] at g1;cases g1;have Fe:(getObj zH.aM).run P w=.ok (.map nF clock) w:=by simp only [getObj,Sem.run,g3]
   rename_i aed _;clear aed;cases kX:Nat.beq clock last with
   | false=>rw [kX] at aa;cases aa
   | true=>
     rw [kX] at aa;simp only [cond_true] at aa;have:=Nat.eq_of_beq_eq_true kX;subst this;cases J3:AY n es with
     | none=>rw [J3] at aa;cases aa
     | some y=>
       rw [J3] at aa;simp only [a8.val.injEq] at aa;obtain ⟨rfl,rfl⟩:=aa;obtain ⟨e,f1,f2,f3⟩:=Pv es _ y g4 J3;have aeF:a.back? =some n:=by
        have:a.toList.getLast? =some n:=by rw [a1];simp
        simpa using this
       have uc:nF.find? (fun e=>e.born == n)=some e:=by rw [<-f1];simp
       refine df.plain (Z:=.tuple #[e.key,e.val]) s ?_ ?_
       . simp only [Instr.entry,oh,Sem.run_bind,fj,Result.andThen_ok,aeF,Fe,bne_self_eq_false,Bool.false_eq_true,if_false,uc,Sem.run_pure]
       . simp only [Rel,bk];exact ⟨_,rfl,_,_,rfl,f2,_,_,rfl,f3,rfl⟩
end
section
variable {P:Program}
theorem ZH {az:Fr} {E:Env} {h ab:ai} {w:World} (s:bf az E h w) {t u e:TypeId} {size:Nat} (afP:1<=size) {x v:V} {X Y:Value} {ty:TypeId} {n:Nat} {new:List V} {l:List Value}
 (ay:bk E new l) (fF:new.length=n * size) (hF:n<=top)
 (fZ:∀(ao:World) (A:Option Addr) (dd fS:Nat),dd+n<=fS->(∀a,A=some a->(storeCells (a.add (dd * size)) l).run P w=.ok () ao)->(A=none->ao=w)->
   (Builtin.append_ #[t,u] ty #[.slice A dd fS,Y]).run P w=.ok (.slice A (dd+n) fS) ao)
 (sH:∀(A:Option Addr) (dd fS:Nat) (bG:List Value),(∀ao:World,ao.heap=w.heap->(Builtin.firstCells size dd (.slice A dd fS)).run P ao=.ok bG.toArray ao)->¬dd+n<=fS->dd+n<=top->bG.length=dd * size->l.length=n * size->
   ∃cap rest ao,dd+n<=cap/\cap * size<=((bG++l).toArray++rest).size/\
   (Builtin.append_ #[t,u] ty #[.slice A dd fS,Y]).run P w=.ok (.slice (some ⟨w.heap.size,0,none⟩) (dd+n) cap) ao/\
   ao.heap=w.heap.push (.cells ((bG++l).toArray++rest) e)/\ao.os=w.os/\ao.tape=w.tape/\ao.output=w.output)
 (he:D5 size n new x h=.val v ab) (ak:Rel E x X):df az P E w (Builtin.append_ #[t,u] ty #[X,Y]) v ab:=by
 have p_:l.length=n * size:=by rw [ay.length,fF]
 unfold D5 at he;cases x<;>simp only at he<;>try (cases he;done)
 . -- a slice of known capacity
   rename_i b off len cap;simp only [Rel] at ak;obtain ⟨p,ag,sB,rfl⟩:=ak;simp only [x6] at he;cases ep:Nat.ble (len+n) cap with
   | true=>
     rw [ep] at he;simp only [cond_true] at he;rw [Nat.ble_eq] at ep;cases lu:lay h b (off+len * size) new with
     | none=>rw [lu] at he;cases he
     | some aa=>
     rw [lu] at he;simp only [a8.val.injEq] at he;obtain ⟨rfl,rfl⟩:=he;obtain ⟨ao,cR,hH⟩:=zk (P:=P) s ay lu ag;refine ⟨_,ao,E,fZ ao _ _ _ ep (fun a a1=>?_) (fun a1=>by cases a1),Env.le.refl E,?_,hH⟩
     . cases a1;rw [add_eq,Nat.add_assoc];exact cR
     . simp only [Rel];exact ⟨p,ag,ep,rfl⟩
   | false=>
     rw [ep] at he;simp only [cond_false] at he;have KT:¬len+n<=cap:=by rw [<-Nat.ble_eq,ep];simp
     obtain ⟨ae,he⟩:=jR he;simp only [Bool.and_eq_true,Nat.ble_eq] at ae;cases hold:pH h size b off len with
     | none=>rw [hold] at he;cases he
     | some bG=>
     rw [hold] at he;simp only at he;cases gJ:km h (bG++new) size false with
     | none=>rw [gJ] at he;cases he
     | some aa=>
     rw [gJ] at he;simp only [a8.val.injEq] at he;obtain ⟨rfl,rfl⟩:=he;obtain ⟨q,bB,aC,eD,sG,ie⟩:=zX (P:=P) s ⟨p,ag⟩ hold;rw [ag] at aC;cases aC;obtain ⟨c,rest,ao,bA,bx,c4,dp,lx,mI,qi⟩:=sH (some ⟨p.aM,p.base+off,none⟩) (len) (cap) _
      (fun ao hw=>by simp only [Builtin.firstCells];exact ie ao hw) KT ae.1 (by rw [eD.length,sG]) p_
     obtain ⟨ax,g1,g2,g3⟩:=w' (ao:=ao) (b4:=(0,0)) s (eD.append ay) gJ bx (.inr (Nat.le_refl _)) (fun _=>rfl) dp lx mI qi;refine ⟨_,ao,ax,c4,g1,?_,g3⟩;simp only [Rel];exact ⟨_,g2,by simp only;omega,by simp⟩
 . -- one that was appended to
   rename_i b off len idx;have B0:=ak;simp only [Rel] at ak;obtain ⟨p,ag,SP,rfl⟩:=ak;simp only [x5] at he;cases jv:Nat.beq n 0 with
   | true=>
     rw [jv] at he;simp only [cond_true] at he;cases he;rw [Nat.beq_eq] at jv;subst jv;have p9:l=[]:=by cases l with | nil=>rfl | cons _ _=>simp at p_
     subst p9;refine ⟨_,w,E,fZ w _ _ _ (by omega) (fun a _=>rfl) (fun a1=>by cases a1),Env.le.refl E,?_,s⟩;simpa using B0
   | false=>
     rw [jv] at he;simp only [cond_false] at he;have q5:=s.at ag;cases aB:h.get b with
     | dead=>rw [aB] at he;cases he
     | view _ _=>rw [aB] at he;cases he
     | iter _ _=>rw [aB] at he;cases he
     | mp _ _=>rw [aB] at he;cases he
     | dF _=>rw [aB] at he;cases he
     | gd=>rw [aB] at he;cases he
     | j4 _=>rw [aB] at he;cases he
     | j3 _ _ _ _=>rw [aB] at he;cases he
     | cells N cs cE st=>
       rw [aB] at he q5;simp only [cf.on] at he;obtain ⟨ae,he⟩:=jR he;simp only [Bool.and_eq_true,Nat.ble_eq,Nat.beq_eq] at ae;obtain ⟨⟨J_,KH,KJ⟩,BI⟩:=ae;cases hold:pH h size b off len with
       | none=>rw [hold] at he;cases he
       | some bG=>
       rw [hold] at he;simp only at he;cases gJ:km (h.set b .dead) (bG++new) size st with
       | none=>rw [gJ] at he;cases he
       | some aa=>
       rw [gJ] at he;simp only [a8.val.injEq] at he;obtain ⟨rfl,rfl⟩:=he;obtain ⟨q,bB,aC,eD,sG,ie⟩:=zX (P:=P) s ⟨p,ag⟩ hold;rw [ag] at aC;cases aC;obtain ⟨bJ,q,c,el,b4,aP,c_,bl,q8,cR,lT,bK⟩:=q5;rw [ag] at aP;cases aP;have BK:=afP;have lT:=lT (by omega);rw [J_] at lT;have C1:=s.kill ag;by_cases ep:len+n<=p.cap-idx
       . -- in place
         have aO:=(Array.getElem?_eq_some_iff.1 bl).1;have afh:(idx+len+n) * size<=p.cap * size:=Nat.mul_le_mul_right _ (by omega);have hbound:p.base+off+len * size+0+l.length<=c.size:=by
          rw [p_,BI];have:(idx+len+n) * size=idx * size+len * size+n * size:=by rw [Nat.add_mul,Nat.add_mul]
          omega
         have BW:=GZ (P:=P) aO el b4 (p.base+off+len * size) l c 0 (Gx KJ ay) hbound q8;rw [NF bl,Nat.add_zero] at BW;have KW:=fZ (lG w p.aM (ql c (p.base+off+len * size) l) el b4) (some ⟨p.aM,p.base+off,none⟩) _ _ ep
          (fun a a1=>by cases a1;rw [add_eq];exact BW) (fun a1=>by cases a1)
         unfold km at gJ;obtain ⟨aD,gJ⟩:=eI gJ;simp only [Bool.and_eq_true,Nat.ble_eq] at aD;simp only [Option.some.injEq] at gJ;subst gJ;have dI:=s.fresh h.next (Nat.le_refl _)
         have hle:E.le (E.put (aj h.next) ⟨p.aM,p.base+off,p.cap-idx⟩):=Env.l' dI;have dZ:E.put (aj h.next) ⟨p.aM,p.base+off,p.cap-idx⟩ (aj h.next)=some ⟨p.aM,p.base+off,p.cap-idx⟩:=by unfold Env.put;rw [if_pos rfl]
         refine ⟨_,_,_,KW,hle,?_,bf.add (p:=⟨p.aM,p.base+off,p.cap-idx⟩) C1 (by rw [NG];exact Nat.le_refl _) (fun j _ aU=>ND _ _ _ aU) c_ (fun bL ec h5 oq heq=>?_) rfl rfl rfl (fun _ _ _ e=>by injection e with _ _ cM;omega) ?_⟩
         . simp only [Rel];exact ⟨_,dZ,by simp only;omega,by simp⟩
         . rw [ai.dy] at h5;by_cases iO:b=bL
           . rw [if_pos iO] at h5;cases h5
           . rw [if_neg iO] at h5;exact iO (s.inj b bL p ec (by rw [aB];rfl) h5 ag oq heq.symm)
         . have Fo:(bG++new).length=(len+n) * size:=by rw [List.length_append,sG,fF,Nat.add_mul]
           have ae5:(len+n) * size=len * size+n * size:=Nat.add_mul _ _ _;refine ⟨aD.1,_,_,el,b4,dZ,c_,Dd aO _ _ _,by rw [rr];exact q8,cR,fun _=>?_,?_⟩
           . rw [rr];simp only;have:idx * size + (p.cap-idx) * size=p.cap * size:=by rw [<-Nat.add_mul];congr 1;omega
             omega
           . refine ⟨by rw [rr,Fo,Nat.add_mul];simp only;omega,fun i y an aZ=>?_⟩;rw [CU _ _ _ _ (by omega) (by omega),if_pos (by omega),Nat.sub_zero];rw [F0 _ _ _ _ (by omega)] at aZ;simp only at aZ;by_cases cF:i<len * size
             . rw [if_neg (by omega)] at aZ;rw [List.getElem?_append_left (by omega)];have fj:=ie w rfl;have KR:=run_loadCells (P:=P) (w:=w) (off:=p.base+off) (n:=len * size) bl (by omega);rw [KR] at fj;simp only [Result.ok.injEq,and_true] at fj;have BD:bB=(c.toList.drop (p.base+off)).take (len * size):=by
                have:=congrArg Array.toList fj;simpa using this.symm
               obtain ⟨xN,iS,aF⟩:=eD.get i bG[i] (List.getElem?_eq_getElem (by omega));rw [List.getElem?_eq_getElem (by omega)];rw [BD] at iS;rw [List.getElem?_take_of_lt (by omega),List.getElem?_drop] at iS;simp only [Array.getElem?_toList] at iS;rw [aZ] at iS;cases iS;exact Rel.mono hle _ _ aF
             . rw [if_pos (by omega)] at aZ;rw [List.getElem?_append_right (by omega)];have cM:p.base+off+i - (p.base+off+len * size)=i-bG.length:=by omega
               rw [cM] at aZ;have BF:i-bG.length<new.length:=by omega
               obtain ⟨xN,iS,aF⟩:=ay.get (i-bG.length) new[i-bG.length] (List.getElem?_eq_getElem BF);rw [aZ] at iS;cases iS;rw [List.getElem?_eq_getElem BF];exact Rel.mono hle _ _ aF
       . -- elsewhere
         obtain ⟨bY,rest,ao,bA,bx,c4,dp,lx,mI,qi⟩:=sH (some ⟨p.aM,p.base+off,none⟩) (len) (p.cap-idx) _
          (fun ao hw=>by simp only [Builtin.firstCells];exact ie ao hw) ep KH (by rw [eD.length,sG]) p_
         obtain ⟨ax,g1,g2,g3⟩:=w' (ao:=ao) (b4:=(0,0)) C1 (eD.append ay) gJ bx (.inr (Nat.le_refl _)) (fun _=>rfl) dp lx mI qi;refine ⟨_,ao,ax,c4,g1,?_,g3⟩;simp only [Rel];exact ⟨_,g2,by simp only;omega,by simp⟩
 . -- nil
   simp only [Rel] at ak;subst ak;simp only [vz] at he;cases jv:Nat.beq n 0 with
   | true=>
     rw [jv] at he;simp only [cond_true] at he;cases he;rw [Nat.beq_eq] at jv;subst jv;exact df.plain s (fZ w _ _ _ (by omega) (fun a a1=>by cases a1) (fun _=>rfl)) (by simp [Rel])
   | false=>
     rw [jv] at he;simp only [cond_false] at he;have BH:¬n=0:=by intro e;subst e;simp at jv
     cases gJ:km h new size false with
     | none=>rw [gJ] at he;cases he
     | some aa=>
     rw [gJ] at he;simp only [a8.val.injEq] at he;obtain ⟨rfl,rfl⟩:=he;obtain ⟨c,rest,ao,bA,bx,c4,dp,lx,mI,qi⟩:=sH (none) (0) (0) []
      (fun ao _=>by simp [Builtin.firstCells]) (by omega) (by omega) (by simp) p_
     obtain ⟨ax,g1,g2,g3⟩:=w' (ao:=ao) (b4:=(0,0)) s ay gJ bx (.inr (Nat.le_refl _)) (fun _=>rfl) dp lx mI qi;refine ⟨_,ao,ax,c4,g1,?_,g3⟩;simp only [Rel];exact ⟨_,g2,by simp only;omega,by simp⟩
structure Ib (P:Program) (t u e:TypeId) (size bytes:Nat) (k:IntKind) (z:Value):Prop where
 ut:∀w,(underlying t).run P w=.ok (.slice e) w
 tj:∀w,(underlying u).run P w=.ok (.int k) w
 ka:∀w,(sizeOf e).run P w=.ok size w
 Ej:∀w,∃i,(typeInfo e).run P w=.ok i w/\i.bytes=bytes
 Ac:∀w,(zeroValue e).run P w=.ok z w
 fA:z.cells.size=size
 pos:1<=size
 small:bytes<=4096
theorem X7 (c:Array Value):Builtin.zeroCells c 0=#[]:=by simp [Builtin.zeroCells]
theorem amM {t u e:TypeId} {size bytes:Nat} {k:IntKind} {z:Value} (H:Ib P t u e size bytes k z) {n:Nat} (aV:n<=100000) {ty:TypeId} {w ao:World} {A:Option Addr} {dd fS:Nat} (ep:dd+n<=fS)
 (cR:∀a,A=some a->(storeCells (a.add (dd * size)) (Builtin.zeroCells z.cells n).toList).run P w=.ok () ao) (dI:A=none->ao=w):
 (Builtin.append_ #[t,u] ty #[.slice A dd fS,.int .i64 n]).run P w=.ok (.slice A (dd+n) fS) ao:=by
 have hw:IntKind.i64.wrap (n:Int)=n:=by unfold IntKind.wrap;simp [IntKind.bits,IntKind.signed];omega
 obtain ⟨i,an,q_⟩:=H.Ej w;have tX:¬(281474976710656 < (n:Int) * (i.bytes:Int)):=by rw [q_];have aa:n * bytes<=100000 * 4096:=Nat.mul_le_mul aV H.small;have ad:((n * bytes:Nat):Int)=(n:Int) * (bytes:Int):=Int.natCast_mul _ _;omega
 have Fu:¬((n:Int)<0):=by omega
 have cr:size≠0:=by have:=H.pos;omega
 have a1:∀w,(asInt (.int .i64 (n:Int))).run P w=.ok (n:Int) w:=fun w=>by simp [asInt,asIntOf]
 have E6:∀w,(asInt (.int .i64 0)).run P w=.ok 0 w:=fun w=>by simp [asInt,asIntOf]
 have zb:IntKind.i64.wrap 0=0:=by decide
 cases A with
 | none=>
   have:=dI rfl;subst this;by_cases aX:n=0
   . subst aX;simp [Builtin.append_,H.ut,H.tj,H.ka,E6,an,zb,(show dd<=fS from by omega)]
   . simp [Builtin.append_,H.ut,H.tj,H.ka,H.Ac,a1,an,tX,hw,ep,Fu,cr,aX]
 | some a=>
   have:=cR a rfl;by_cases aX:n=0
   . subst aX;rw [X7] at this;simp [Builtin.append_,H.ut,H.tj,H.ka,E6,an,zb,(show dd<=fS from by omega),this]
   . simp [Builtin.append_,H.ut,H.tj,H.ka,H.Ac,a1,an,tX,hw,ep,Fu,Nat.mul_ne_zero aX cr,this]
theorem amN {t u e:TypeId} {size bytes:Nat} {k:IntKind} {z:Value} (H:Ib P t u e size bytes k z) {n:Nat} (aV:n<=100000) {ty:TypeId} {w:World} (A:Option Addr) (dd fS:Nat) (bG:List Value)
 (hold:∀ao:World,ao.heap=w.heap->(Builtin.firstCells size dd (.slice A dd fS)).run P ao=.ok bG.toArray ao) (ep:¬dd+n<=fS) (BV:dd+n<=top) (a6:bG.length=dd * size) (ay:(Builtin.zeroCells z.cells n).toList.length=n * size):
 ∃cap rest ao,dd+n<=cap/\cap * size<=((bG++(Builtin.zeroCells z.cells n).toList).toArray++rest).size/\
  (Builtin.append_ #[t,u] ty #[.slice A dd fS,.int .i64 n]).run P w=.ok (.slice (some ⟨w.heap.size,0,none⟩) (dd+n) cap) ao/\
  ao.heap=w.heap.push (.cells ((bG++(Builtin.zeroCells z.cells n).toList).toArray++rest) e)/\ao.os=w.os/\ao.tape=w.tape/\ao.output=w.output:=by
 have hw:IntKind.i64.wrap (n:Int)=n:=by simp only [IntKind.wrap,IntKind.bits,IntKind.signed];simp;omega
 obtain ⟨i,an,q_⟩:=H.Ej w;have kk:P.info? e=some i:=by
  simp only [typeInfo,Sem.run_bind,run_program,Result.andThen_ok] at an;cases aC:P.info? e with
  | none=>rw [aC] at an;simp at an
  | some j=>rw [aC] at an;simp at an;rw [an]
 have hE:∀ao,(typeInfo e).run P ao=.ok i ao:=fun ao=>zR kk ao;have agK:¬(281474976710656 < (n:Int) * (i.bytes:Int)):=by rw [q_];have aa:n * bytes<=100000 * 4096:=Nat.mul_le_mul aV H.small;have ad:((n * bytes:Nat):Int)=(n:Int) * (bytes:Int):=Int.natCast_mul _ _;omega
 have tX:¬(281474976710656<Builtin.nextslicecap (dd+n) fS * i.bytes):=by
  have aa:fS<dd+n:=by omega
  have:=growslice_fits (bytes:=i.bytes) aa (by rw [q_];have ad:(dd+n) * bytes<=top * 4096:=Nat.mul_le_mul BV H.small;unfold top at ad;omega);omega
 have jc:¬(9223372036854775807 < ((dd:Int) + (n:Int))):=by unfold top at BV;omega
 have Fu:¬((n:Int)<0):=by omega
 have cr:size≠0:=by have:=H.pos;omega
 have a1:∀w,(asInt (.int .i64 (n:Int))).run P w=.ok (n:Int) w:=fun w=>by simp [asInt,asIntOf]
 have E6:∀w,(asInt (.int .i64 0)).run P w=.ok 0 w:=fun w=>by simp [asInt,asIntOf]
 have zb:IntKind.i64.wrap 0=0:=by decide
 let q:Question:=.appendCap (dd+n) fS e
 let cap:=q.cut (w.tape w.drawn q)
 have lT:dd+n<=cap:=by show dd+n<=(dd+n)+_;omega
 refine ⟨cap,Builtin.zeroCells z.cells (cap - (dd+n)),w.drew.alloc (.cells ((bG++(Builtin.zeroCells z.cells n).toList).toArray++Builtin.zeroCells z.cells (cap - (dd+n))) e),lT,?_,?_,rfl,rfl,rfl,rfl⟩
 . simp only [Array.size_append,List.size_toArray,List.length_append,a6,ay];have:(Builtin.zeroCells z.cells (cap - (dd+n))).size=(cap - (dd+n)) * size:=by simp [Builtin.zeroCells,H.fA]
   rw [this,<-Nat.add_mul,<-Nat.add_mul];exact Nat.mul_le_mul_right _ (by omega)
 . have f2:=hold w.drew rfl;by_cases aX:n=0
   . subst aX;have BR:¬dd<=fS:=by omega
     have aeD:¬(9223372036854775807 < (dd:Int)):=by omega
     rw [Nat.add_zero] at tX;simp [Builtin.append_,H.ut,H.tj,H.ka,H.Ac,E6,zb,hE,BR,tX,aeD,Question.forced,f2,newRow];refine ⟨rfl,?_⟩;have aP:(bG++(Builtin.zeroCells z.cells 0).toList).toArray=bG.toArray:=by rw [X7];simp
     rw [aP];rfl
   . simp [Builtin.append_,H.ut,H.tj,H.ka,H.Ac,a1,hw,agK,Fu,Nat.mul_ne_zero aX cr,ep,hE,tX,jc,Question.forced,f2,newRow];refine ⟨rfl,?_⟩;have aP:(bG++(Builtin.zeroCells z.cells n).toList).toArray=bG.toArray++Builtin.zeroCells z.cells n:=by simp
     rw [aP,Array.append_assoc]
end
section
variable {P:Program}
abbrev cA (rd:Option Nat):Fence:={fn:=fun _=>True,depth:=none,alive:=false,round:=rd}
theorem tJ {rd:Option Nat} {n:Nat} {f:FuncId} {args:Array Value} {w:World} {R:Ending->World->Prop}:CallsIn (cA rd) n P f args w R↔Calls P f args w R:=callsIn_wide
theorem MO {rd:Option Nat} (n:Nat):(cA rd).room n:=fun _ h=>by simp [cA] at h
abbrev qu (x:Value):List PanicEntry:=[{v:=x,recovered:=false}]
structure hi (P:Program) (call:dU):Prop where
 fn:∀(az:Fr) f args h v ab,f≠dC->call f args h=.val v ab->∀E w xs,bk E args xs->bf az E h w->
  ((∃fn,P.funcs[f]? =some fn/\fn.body.isSome=true)/\Calls P f xs.toArray w fun e ao=>∃ax x,e=.returned x/\E.le ax/\Rel ax v x/\bf az ax ab ao)\/
  ∃ax x ao,(callFunc f xs.toArray).run P w=.ok (.value x) ao/\E.le ax/\Rel ax v x/\bf az ax ab ao
 cT:∀(az:Fr) f args h v ab,f≠dC->call f args h=.cT v ab->∀E w xs,bk E args xs->bf az E h w->
  (∃fn,P.funcs[f]? =some fn/\fn.body.isSome=true)/\Calls P f xs.toArray w fun e ao=>∃ax x,e=.panicked (qu x)/\E.le ax/\Rel ax v x/\bf az ax ab ao
 X5:∀(az:Fr) args b h v ab,call dC (args++[.ptr b 0]) h=.val v ab->∀E w xs p,bk E args xs->bf az E h w->E b=some p->
  ∃f tmps assign body,(Instr.yield p.aM xs.toArray).run P w=.ok (.round p.aM f tmps assign body) w/\
   RoundIn (cA none) 0 P p.aM f tmps assign body w fun e ao=>∃ax x,e=.returned x/\E.le ax/\Rel ax v x/\bf az ax ab ao
 X6:∀args h v ab,call dC args h≠.cT v ab
theorem qz {rd:Option Nat} {o:Oper} (nv:∀c,o.op≠.defer c) (ρ:Operand->Value):o.semAt (cA rd).round ρ=execOp ρ o:=Oper.semAt_eq _ ρ o nv
theorem gP {rd:Option Nat} {o:Oper} {a:Act} {w:World} {az:Fr} {E:Env} {ab:ai} {v:V} {m:Sem Value} {K:Act->World->Prop} {Q:Exit->Act->World->Prop}
 (ak:execOp a.eval o=(do pure (.value (<-m)))) (g:df az P E w m v ab) (dQ:∀ax x ao,E.le ax->Rel ax v x->bf az ax ab ao->K (a.put o.dst x) ao) (nv:∀c,o.op≠.defer c:=by intro c h;cases h):
 o.wpIn (cA rd) 0 P a w K Q:=by
 obtain ⟨Z,ao,ax,aa,ad,aJ,bE⟩:=g;refine ⟨fun _ _=>trivial,?_⟩;rw [qz nv,ak,Sem.run_bind,aa];exact dQ ax Z ao ad aJ bE
theorem GF {E:Env} {au:Nat} {r:bI} {a:Act} (k:RegRel0 E au r a):∀l:List (Nat × Operand),r7 E ((uK l).run r) (l.map fun (i,x)=>(i,a.eval x))
 | []=>rfl
 | (i,x)::l=>by simp only [uK,List.map,r7];exact ⟨_,_,rfl,dM k x,GF k l⟩
theorem GC {E:Env} {au:Nat} {r:bI} {a:Act} (k:RegRel0 E au r a) (x:Option Operand):ik E ((rH x).run r) (x.map a.eval):=by
 cases x with
 | none=>rfl
 | some x=>simp only [rH,ik,Option.map];exact ⟨_,rfl,dM k x⟩
theorem ak9 {v:V} {f:aQ->Nat->a8} {r:V} {h:ai} (he:v.jz .fail f=.val r h):∃b off,v=.ptr b off/\f b off=.val r h:=by
 cases v<;>simp only [V.jz] at he<;>first
  | (cases he;done)
  | exact ⟨_,_,rfl,he⟩
theorem akH {az:Fr} {E:Env} {h ab:ai} {w:World} (s:bf az E h w) {x v:V} {X:Value} {ty:TypeId} (ak:Rel E x X) (he:xa x h=.val v ab):df az P E w (Instr.next X true ty) v ab:=by
 unfold xa at he;obtain ⟨b,off,rfl,aa⟩:=ak9 he;have ae:=s.at (p:=_) (by simp only [Rel] at ak;exact ak.choose_spec.1);cases aB:h.get b with
 | dead=>rw [aB] at aa;cases aa
 | view _ _=>rw [aB] at aa;cases aa
 | cells _ _ _ _=>rw [aB] at aa;cases aa
 | mp _ _=>rw [aB] at aa;cases aa
 | dF _=>rw [aB] at aa;cases aa
 | gd=>rw [aB] at aa;cases aa
 | j4 _=>rw [aB] at aa;cases aa
 | j3 _ _ _ _=>rw [aB] at aa;cases aa
 | iter st pos=>
   rw [aB] at aa ae;simp only at aa;obtain ⟨aX,ad⟩:=jR aa;rw [Nat.beq_eq] at aX;subst aX;obtain ⟨p,ag,c_,oh,bl⟩:=ae;simp only [Rel] at ak;obtain ⟨q,aC,rfl⟩:=ak;rw [ag] at aC;cases aC;have fj:(getObj p.aM).run P w=.ok (.stringIter ⟨⟨st⟩⟩ pos) w:=by simp only [getObj,Sem.run,bl]
   have cr:(⟨⟨st⟩⟩:ByteArray).size=st.length:=rfl;cases aO:Nat.blt pos st.length with
   | true=>
     rw [aO] at ad;simp only [cond_true,a8.val.injEq] at ad;obtain ⟨rfl,rfl⟩:=ad;rw [Nat.blt_eq] at aO
     let ck:Obj:=.stringIter ⟨⟨st⟩⟩ (pos + (decodeL st pos).2)
     let ao:World:={w with heap:=w.heap.setIfInBounds p.aM ck}
     have lY:=(Array.getElem?_eq_some_iff.1 bl).1;have sL:(setObj p.aM ck).run P w=.ok () ao:=by simp only [setObj,Sem.run,bl];rfl
     refine ⟨.tuple #[.bool true,goInt pos,.int .i32 (decodeL st pos).1],ao,E,?_,Env.le.refl E,?_,s.set (p:=p) (by rw [aB];rfl) ag c_ (by simp [ao]) (fun j aU=>?_) rfl rfl rfl (fun _ _ _ e=>by cases e) ?_⟩
     . simp only [Instr.next,oh,Sem.run_bind,fj,Result.andThen_ok,cr,if_pos aO];have:(Utf8.decode (⟨⟨st⟩⟩:ByteArray) pos)=decodeL st pos:=rfl;simp only [this];rw [sL];rfl
     . simp only [Rel,bk];exact ⟨_,rfl,_,_,rfl,rfl,_,_,rfl,rfl,_,_,rfl,rfl,rfl⟩
     . simp only [ao,Array.getElem?_setIfInBounds];rw [if_neg (fun e=>aU e.symm)]
     . exact ⟨p,ag,c_,oh,by simp [ao,lY,ck]⟩
   | false=>
     rw [aO] at ad;simp only [cond_false,a8.val.injEq] at ad;obtain ⟨rfl,rfl⟩:=ad;have iA:¬pos<st.length:=by rw [<-Nat.blt_eq,aO];simp
     refine df.plain (Z:=.tuple #[.bool false]) s ?_ ?_
     . simp only [Instr.next,oh,Sem.run_bind,fj,Result.andThen_ok,cr,if_neg iA,Sem.run_pure]
     . simp only [Rel,bk];exact ⟨_,rfl,_,_,rfl,rfl,rfl⟩
theorem amn {az:Fr} {E:Env} {h ab:ai} {w:World} (s:bf az E h w) {t:TypeId} {x v:V} {X:Value} (ak:Rel E x X) (he:(GO P t).run x h=.val v ab):df az P E w (Instr.range t X) v ab:=by
 unfold GO at he;cases aw:a_ P t with
 | none=>rw [aw] at he;cases he
 | some aS=>
   rw [aw] at he;simp only at he;have hu:=fR aw;cases bV:aS.bg with
   | string=>
     rw [bV] at he hu;simp only at he;cases x<;>simp only at he<;>try (cases he;done)
     rename_i st;simp only [a8.val.injEq] at he;obtain ⟨rfl,rfl⟩:=he;have:=ak.tg;subst this;have dI:=s.fresh h.next (Nat.le_refl _)
     have dZ:E.put (aj h.next) ⟨w.heap.size,0,0⟩ (aj h.next)=some ⟨w.heap.size,0,0⟩:=by unfold Env.put;rw [if_pos rfl]
     refine ⟨.pointer (some ⟨w.heap.size,0,none⟩),{w with heap:=w.heap.push (.stringIter ⟨⟨st⟩⟩ 0)},_,?_,Env.l' (p:=⟨w.heap.size,0,0⟩) dI,?_,s.alloc 0 ?_⟩
     . simp only [Instr.range,Sem.run_bind,hu,Result.andThen_ok,Sem.run_pure,run_newObj]
     . simp only [Rel];exact ⟨_,dZ,by simp⟩
     . exact ⟨_,dZ,s.frame.size,rfl,by simp⟩
   | map cG hD=>
     rw [bV] at he hu;exact amo s (hu w) ak he
   | _=>rw [bV] at he;cases he
theorem ZE {az:Fr} {E:Env} {h ab:ai} {w:World} (s:bf az E h w) {t u:TypeId} {x y v:V} {X Y:Value} {ty:TypeId}
 (he:(D4 P t u).run x y h=.val v ab) (ak:Rel E x X) (aZ:Rel E y Y):df az P E w (Builtin.append_ #[t,u] ty #[X,Y]) v ab:=by
 unfold D4 at he;cases aw:a_ P t with
 | none=>rw [aw] at he;cases he
 | some aS=>
   cases hu:a_ P u with
   | none=>rw [aw,hu] at he;cases he
   | some ti=>
     rw [aw,hu] at he;simp only at he;have main:(∀k,ti.bg≠.int k)->(match aS.bg with
      | .slice e=>match a_ P e with
        | none=>(⟨fun _ _ _=>.fail⟩:Ad)
        | some bb=>match bb.zero with
          | none=>⟨fun _ _ _=>.fail⟩
          | some z=>bif Nat.ble 1 bb.size&&Nat.ble bb.bytes 4096&&Nat.beq z.cells.length bb.size then ⟨iK bb.size⟩ else ⟨fun _ _ _=>.fail⟩
      | _=>⟨fun _ _ _=>.fail⟩).run x y h=.val v ab->df az P E w (Builtin.append_ #[t,u] ty #[X,Y]) v ab:=by
      intro re he;cases bV:aS.bg with
      | slice e=>
        rw [bV] at he;simp only at he;cases cx:a_ P e with
        | none=>rw [cx] at he;cases he
        | some bb=>
          rw [cx] at he;simp only at he;cases bn:bb.zero with
          | none=>rw [bn] at he;cases he
          | some z=>
            rw [bn] at he;simp only at he;cases aD:(Nat.ble 1 bb.size&&Nat.ble bb.bytes 4096&&Nat.beq z.cells.length bb.size) with
            | false=>rw [aD] at he;cases he
            | true=>
              rw [aD] at he;simp only [cond_true] at he;simp only [Bool.and_eq_true,Nat.ble_eq,Nat.beq_eq] at aD;obtain ⟨lI,wL,_,pg⟩:=tp (P:=P) (E:=E) cx bn w;refine ZG s ⟨fun w=>?_,⟨ti.bg,fun w=>fR hu w,re⟩,fun w=>kq cx w,fun w=>GX cx w,⟨lI,wL,by rw [pg];exact aD.2⟩,aD.1.1,aD.1.2⟩ he ak aZ;have:=fR aw w;rw [bV] at this;exact this
      | _=>rw [bV] at he;cases he
     cases y_:ti.bg with
     | int k=>
       rw [y_] at he;simp only at he;cases bV:aS.bg with
       | slice e=>
         rw [bV] at he;simp only at he;cases cx:a_ P e with
         | none=>rw [cx] at he;cases he
         | some bb=>
           rw [cx] at he;simp only at he;cases bn:bb.zero with
           | none=>rw [bn] at he;cases he
           | some z=>
             rw [bn] at he;simp only at he;cases aD:(Nat.ble 1 bb.size&&Nat.ble bb.bytes 4096&&Nat.beq z.cells.length bb.size) with
             | false=>rw [aD] at he;cases he
             | true=>
               rw [aD] at he;simp only [cond_true] at he;simp only [Bool.and_eq_true,Nat.ble_eq,Nat.beq_eq] at aD;obtain ⟨lI,wL,B4,pg⟩:=tp (P:=P) (E:=E) cx bn w;have za:∀w,(underlying t).run P w=.ok (.slice e) w:=fun w=>by have:=fR aw w;rw [bV] at this;exact this
               have K1:∀w,(underlying u).run P w=.ok (.int k) w:=fun w=>by have:=fR hu w;rw [y_] at this;exact this
               have H:Ib P t u e bb.size bb.bytes k lI:=⟨za,K1,fun w=>kq cx w,fun w=>GX cx w,wL,by rw [pg];exact aD.2,aD.1.1,aD.1.2⟩;unfold x7 at he
               split at he
               case h_2=>cases he
               rename_i di m
               split at he
               case h_2=>cases he
               rename_i n;obtain ⟨o7,bh⟩:=jR he;simp only [Bool.and_eq_true,Nat.ble_eq] at o7;have aH:=tR o7.1;subst aH;simp only [Rel] at aZ;subst aZ;have Th:=zO B4 n;have hlen:(hM z.cells n).length=n * bb.size:=by rw [<-Th.length];simp [Builtin.zeroCells,pg,aD.2]
               exact ZH s aD.1.1 Th hlen (by have:=o7.2;unfold top;omega) (fun ao A dd fS a b c=>amM H o7.2 a b c) (fun A dd fS bG a b c d f=>amN H o7.2 A dd fS bG a b c d f) bh ak
       | _=>rw [bV] at he;cases he
     | _=>rw [y_] at he;exact main (by rw [y_];simp) he
theorem acn {az:Fr} {E:Env} {h ab:ai} {w:World} (s:bf az E h w) {t:TypeId} {rest:List TypeId} {x y v:V} {X Y:Value} {ty:TypeId}
 (he:(Et P t).run x y h=.val v ab) (ak:Rel E x X) (aZ:Rel E y Y):df az P E w (Builtin.copy_ (t::rest).toArray ty #[X,Y]) v ab:=by
 unfold Et at he;cases aw:a_ P t with
 | none=>rw [aw] at he;cases he
 | some aS=>
   rw [aw] at he;simp only at he;cases bV:aS.bg with
   | slice e=>
     rw [bV] at he;simp only at he;cases cx:a_ P e with
     | none=>rw [cx] at he;cases he
     | some bb=>
       rw [cx] at he;simp only at he;exact aco s (fun w=>by have:=fR aw w;rw [bV] at this;exact this) (fun w=>kq cx w) he ak aZ
   | _=>rw [bV] at he;cases he
theorem ab8 {az:Fr} {E:Env} {h ab:ai} {w:World} (s:bf az E h w) {t:TypeId} {x v:V} {X:Value} {ty:TypeId} {z:List V} (aD:A2 P t=some z)
 (he:Es z x h=.val v ab) (ak:Rel E x X):df az P E w (Builtin.clear_ #[t] ty #[X]) v ab:=by
 unfold A2 at aD;cases aw:a_ P t with
 | none=>rw [aw] at aD;cases aD
 | some aS=>
   rw [aw] at aD;simp only at aD;cases bV:aS.bg with
   | slice e=>
     rw [bV] at aD;simp only at aD;cases cx:a_ P e with
     | none=>rw [cx] at aD;cases aD
     | some bb=>
       rw [cx] at aD;simp only at aD;cases bn:bb.zero with
       | none=>rw [bn] at aD;cases aD
       | some z0=>
         rw [bn] at aD;simp only [Option.some.injEq] at aD;subst aD;have hu:∀w,(underlying t).run P w=.ok (.slice e) w:=fun w=>by have:=fR aw w;rw [bV] at this;exact this
         obtain ⟨z,mE,B4,uk⟩:=tp (P:=P) (E:=E) cx bn w;have nothing:∀a c,X=.slice a 0 c->v=.tuple []->ab=h->df az P E w (Builtin.clear_ #[t] ty #[X]) v ab:=by
          intro a c b5 bh bl;subst b5 bh bl;refine ⟨.tuple #[],w,E,?_,Env.le.refl E,?_,s⟩
          . cases a<;>simp [Builtin.clear_,Sem.run_bind,hu,Result.andThen_ok,Sem.run_pure]
          . simp only [Rel];exact ⟨_,rfl,rfl⟩
         have W0:∀(b:aQ) (off n c:Nat) (p:jN),E b=some p->X=.slice (some ⟨p.aM,p.base+off,none⟩) n c->(bif Nat.beq n 0 then (a8.val (.tuple []) h) else (match lay h b off (hM z0.cells n) with
          | some ab=>a8.val (.tuple []) ab
          | none=>.fail))=.val v ab->df az P E w (Builtin.clear_ #[t] ty #[X]) v ab:=by
          intro b off n c p ag b5 he;cases n with
          | zero=>
            simp only [Nat.beq_refl,cond_true,a8.val.injEq] at he;exact nothing _ _ b5 he.1.symm he.2.symm
          | succ n=>
            simp only [show Nat.beq (n+1) 0=false from rfl,cond_false] at he;cases ay:lay h b off (hM z0.cells (n+1)) with
            | none=>rw [ay] at he;cases he
            | some aa=>
              rw [ay] at he;simp only [a8.val.injEq] at he;obtain ⟨rfl,rfl⟩:=he;obtain ⟨ao,g1,g2⟩:=zk (P:=P) s (zO B4 (n+1)) ay ag;subst b5;refine ⟨.tuple #[],ao,E,?_,Env.le.refl E,?_,g2⟩
              . simp only [Builtin.clear_,Sem.run_bind,List.getElem?_toArray,List.getElem?_cons_zero,hu,mE,Result.andThen_ok];have:(storeCells ⟨p.aM,p.base+off,none⟩ (Builtin.zeroCells z.cells (n+1)).toList).run P w=.ok () ao:=g1;simp [this,Sem.run_pure,Result.andThen_ok]
              . simp only [Rel];exact ⟨_,rfl,rfl⟩
         unfold Es at he;cases x<;>simp only at he<;>try (cases he;done)
         . simp only [Rel] at ak;obtain ⟨p,g1,g2,g3⟩:=ak;exact W0 _ _ _ _ p g1 g3 he
         . simp only [Rel] at ak;obtain ⟨p,g1,g2,g3⟩:=ak;exact W0 _ _ _ _ p g1 g3 he
         . simp only [Rel] at ak;obtain ⟨a,c,rfl⟩:=ak;simp only [a8.val.injEq] at he;exact nothing _ _ rfl he.1.symm he.2.symm
         . simp only [Rel] at ak;simp only [a8.val.injEq] at he;exact nothing _ _ ak he.1.symm he.2.symm
   | _=>rw [bV] at aD;cases aD
theorem abK {E:Env} {t:TypeId} {aS:n_} {x v:V} {X:Value} {ty:TypeId} (aw:a_ P t=some aS) (aR:Ca aS.bg=true) (he:sh x=some v) (ak:Rel E x X) (w:World):
 ∃Z,(Builtin.cap_ #[t] ty #[X]).run P w=.ok Z w/\Rel E v Z:=by
 cases bV:aS.bg with
 | slice e=>
   have hu:∀w,(underlying t).run P w=.ok (.slice e) w:=fun w=>by have:=fR aw w;rw [bV] at this;exact this
   cases x<;>simp only [sh] at he<;>try (cases he;done)
   . simp only [Rel] at ak;obtain ⟨p,_,_,rfl⟩:=ak;cases he;refine ⟨_,?_,rfl⟩;simp [Builtin.cap_,Sem.run_bind,hu,Result.andThen_ok,Sem.run_pure];rfl
   . simp only [Rel] at ak;subst ak;cases he;refine ⟨_,?_,rfl⟩;simp [Builtin.cap_,Sem.run_bind,hu,Result.andThen_ok,Sem.run_pure];rfl
 | _=>rw [bV] at aR;cases aR
theorem C6 {α:Type} (a:Array α):a.toList.toArray=a:=by simp
theorem aar {az:Fr} {E:Env} {h ab:ai} {w:World} (s:bf az E h w) {b:Builtin} {cQ:Array TypeId} {args:List V} {xs:List Value} {v:V} {ty:TypeId} {cs:Array Bool} (ay:bk E args xs)
 (he:(qR P b cQ.toList).run args h=.val v ab):∃m:Sem Value,Go.builtin b cQ ty cs xs.toArray=(do pure (.value (<-m)))/\df az P E w m v ab:=by
 have one:∀{x:V},bk E [x] xs->∃X,xs=[X]/\Rel E x X:=by intro x h;simp only [bk] at h;obtain ⟨y,cY,rfl,aZ,rfl⟩:=h;exact ⟨y,rfl,aZ⟩
 have two:∀{x y:V},bk E [x,y] xs->∃X Y,xs=[X,Y]/\Rel E x X/\Rel E y Y:=by intro x y h;simp only [bk] at h;obtain ⟨X,_,rfl,b5,Y,_,rfl,fN,rfl⟩:=h;exact ⟨X,Y,rfl,b5,fN⟩
 cases b<;>simp only [qR] at he<;>try (simp [gu.none] at he;done)
 . -- append
   cases fk:cQ.toList with
   | nil=>rw [fk] at he;simp [gu.none] at he
   | cons t th=>
     rw [fk] at he;cases th with
     | nil=>simp [gu.none] at he
     | cons u aoa=>
       cases aoa with
       | cons _ _=>simp [gu.none] at he
       | nil=>
         simp only at he
         match args,he,ay with
         | [x,y],he,ay=>
           obtain ⟨X,Y,rfl,b5,fN⟩:=two ay;have e:cQ=#[t,u]:=by rw [<-C6 cQ,fk]
           exact ⟨_,rfl,by rw [e];exact ZE s he b5 fN⟩
         | [],he,_=>cases he
         | [_],he,_=>cases he
         | _::_::_::_,he,_=>cases he
 . -- cap
   cases fk:cQ.toList with
   | nil=>rw [fk] at he;simp [gu.none] at he
   | cons t th=>
     rw [fk] at he;cases th with
     | cons _ _=>simp [gu.none] at he
     | nil=>
       simp only at he;cases aw:a_ P t with
       | none=>rw [aw] at he;simp [gu.none] at he
       | some aS=>
         rw [aw] at he;simp only at he;cases aR:Ca aS.bg with
         | false=>rw [aR] at he;simp [gu.none] at he
         | true=>
           rw [aR] at he;simp only [cond_true] at he
           match args,he,ay with
           | [x],he,ay=>
             obtain ⟨X,rfl,b5⟩:=one ay;have e:cQ=#[t]:=by rw [<-C6 cQ,fk]
             obtain ⟨et,rfl⟩:=a8.iY he;obtain ⟨Z,fO,cN⟩:=abK (P:=P) (ty:=ty) aw aR et b5 w;exact ⟨_,rfl,by rw [e];exact df.plain s fO cN⟩
           | [],he,_=>cases he
           | _::_::_,he,_=>cases he
 . -- clear
   cases fk:cQ.toList with
   | nil=>rw [fk] at he;simp [gu.none] at he
   | cons t th=>
     rw [fk] at he;cases th with
     | cons _ _=>simp [gu.none] at he
     | nil=>
       simp only at he;cases aD:A2 P t with
       | none=>rw [aD] at he;simp [gu.none] at he
       | some z=>
         rw [aD] at he;simp only at he
         match args,he,ay with
         | [x],he,ay=>
           obtain ⟨X,rfl,b5⟩:=one ay;have e:cQ=#[t]:=by rw [<-C6 cQ,fk]
           exact ⟨_,rfl,by rw [e];exact ab8 s aD he b5⟩
         | [],he,_=>cases he
         | _::_::_,he,_=>cases he
 . -- copy
   cases fk:cQ.toList with
   | nil=>rw [fk] at he;simp [gu.none] at he
   | cons t th=>
     rw [fk] at he;simp only at he
     match args,he,ay with
     | [x,y],he,ay=>
       obtain ⟨X,Y,rfl,b5,fN⟩:=two ay;have e:cQ=(t::th).toArray:=by rw [<-C6 cQ,fk]
       exact ⟨_,rfl,by rw [e];exact acn s he b5 fN⟩
     | [],he,_=>cases he
     | [_],he,_=>cases he
     | _::_::_::_,he,_=>cases he
 . -- len
   cases fk:cQ.toList with
   | nil=>rw [fk] at he;simp [gu.none] at he
   | cons t th=>
     rw [fk] at he;cases th with
     | cons _ _=>simp [gu.none] at he
     | nil=>
       simp only at he;cases aw:a_ P t with
       | none=>rw [aw] at he;simp [gu.none] at he
       | some aS=>
         rw [aw] at he;simp only at he
         match args,he,ay with
         | [x],he,ay=>
           obtain ⟨X,rfl,b5⟩:=one ay;have e:cQ=[t].toArray:=by rw [<-C6 cQ,fk]
           cases hm:uv aS.bg with
           | true=>
             rw [hm] at he;exact ⟨_,rfl,by rw [e];exact ajR s aw hm b5 ty [] he⟩
           | false=>
             rw [hm] at he;simp only [cond_false] at he;obtain ⟨et,rfl⟩:=a8.iY he;obtain ⟨Z,fO,cN⟩:=ajS (P:=P) aw et b5 ty [] w;exact ⟨_,rfl,by rw [e];exact df.plain s fO cN⟩
         | [],he,_=>cases hm:uv aS.bg<;>rw [hm] at he<;>cases he
         | _::_::_,he,_=>cases hm:uv aS.bg<;>rw [hm] at he<;>cases he
 . -- max
   obtain ⟨et,rfl⟩:=a8.iY he;clear he;cases args with
   | nil=>cases et
   | cons x args=>
     simp only [k6] at et;obtain ⟨k,a,rfl,aa⟩:=ko et;simp only [bk] at ay;obtain ⟨X,cY,rfl,b5,ay⟩:=ay;have:=b5.jf;subst this;obtain ⟨Z,fO,cN⟩:=Me (P:=P) false args cY k a v ay aa w;exact ⟨_,rfl,df.plain (Z:=Z) s (by simpa [Builtin.max_] using fO) cN⟩
 . -- min
   obtain ⟨et,rfl⟩:=a8.iY he;clear he;cases args with
   | nil=>cases et
   | cons x args=>
     simp only [k6] at et;obtain ⟨k,a,rfl,aa⟩:=ko et;simp only [bk] at ay;obtain ⟨X,cY,rfl,b5,ay⟩:=ay;have:=b5.jf;subst this;obtain ⟨Z,fO,cN⟩:=Me (P:=P) true args cY k a v ay aa w;exact ⟨_,rfl,df.plain (Z:=Z) s (by simpa [Builtin.min_] using fO) cN⟩
end
section
variable {P:Program}
def eT (P:Program):Prop:=∀(f:FuncId) (fn:Func),P.funcs[f]? =some fn->(fn.name == "runtime.NumGoroutine")=false
theorem uV (bJ:eT P) {f:FuncId} {fn:Func} (aA:P.funcs[f]? =some fn) (ae:fn.body.isSome=true) (args:Array Value) (w:World):(callFunc f args).run P w=.ok (.enter f args) w:=by
 have fc:fn.body.isNone=false:=by cases h:fn.body with | none=>rw [h] at ae;cases ae | some c=>rfl
 simp only [callFunc,Sem.run_bind,run_program,Result.andThen_ok,aA];rw [if_neg (by rw [bJ f fn aA];simp)];simp [fc]
theorem LG {α β:Type} (f:α->β) (a:Array α):a.map f=(a.toList.map f).toArray:=by apply Array.ext';simp
theorem Md (ρ:Operand->Value) (bm:Array (Nat × Operand)):(bm.map fun (i,x)=>(i,ρ x))=(bm.toList.map fun (i,x)=>(i,ρ x)).toArray:=by apply Array.ext';simp
theorem ZV {E:Env} {t u7:TypeId} {aS:n_} {ok:Bool} {x v:V} {X:Value} (aw:a_ P t=some aS) (ae:Nat.beq (fl aS.bg) 5=false) (ak:Rel E x X)
 (he:AR t aS.zero ok x=some v) (w:World):∃Z,(Instr.typeAssert X u7 t ok).run P w=.ok Z w/\Rel E v Z:=by
 have hu:=fR aw w;have re:∀ms,aS.bg≠.interface ms:=fun ms e=>by rw [e] at ae;simp [fl] at ae
 have zero:∀z,aS.zero=some z->∃x,(zeroValue t).run P w=.ok x w/\Rel E z x:=fun z bn=>by obtain ⟨x,aa,ad,_⟩:=zS (P:=P) aw bn E w;exact ⟨x,aa,ad⟩
 unfold AR at he;cases x<;>simp only at he<;>try (cases he;done)
 case iface u y=>
  simp only [Rel] at ak;obtain ⟨Y,rfl,fN⟩:=ak;rw [ix] at he;by_cases za:u=t
  . rw [if_pos za] at he;simp only [Option.some.injEq] at he;subst za;cases ok with
    | true=>
      simp only [cond_true] at he;subst he;refine ⟨.tuple #[Y,.bool true],?_,by simp only [Rel,bk];exact ⟨_,rfl,_,_,rfl,fN,_,_,rfl,rfl,rfl⟩⟩;simp only [Instr.typeAssert,Sem.run_bind,hu,Result.andThen_ok];cases bV:aS.bg<;>first
       | exact absurd bV (re _)
       | (simp only [if_true];rfl)
    | false=>
      simp only [cond_false] at he;subst he;refine ⟨Y,?_,fN⟩;simp only [Instr.typeAssert,Sem.run_bind,hu,Result.andThen_ok];cases bV:aS.bg<;>first
       | exact absurd bV (re _)
       | (simp only [if_true];rfl)
  . rw [if_neg za] at he;cases ok with
    | false=>cases he
    | true=>
      simp only [cond_true] at he;cases bn:aS.zero with
      | none=>rw [bn] at he;cases he
      | some z=>
        rw [bn] at he;simp only [Option.some.injEq] at he;subst he;obtain ⟨ba,b6,z2⟩:=zero z bn;refine ⟨.tuple #[ba,.bool false],?_,by simp only [Rel,bk];exact ⟨_,rfl,_,_,rfl,z2,_,_,rfl,rfl,rfl⟩⟩;simp only [Instr.typeAssert,Sem.run_bind,hu,Result.andThen_ok];cases bV:aS.bg<;>first
         | exact absurd bV (re _)
         | (simp only [if_neg za,if_true,Sem.run_bind,b6,Result.andThen_ok];rfl)
 case nilIface=>
  simp only [Rel] at ak;subst ak;cases ok with
  | false=>cases he
  | true=>
    simp only [cond_true] at he;cases bn:aS.zero with
    | none=>rw [bn] at he;cases he
    | some z=>
      rw [bn] at he;simp only [Option.some.injEq] at he;subst he;obtain ⟨ba,b6,z2⟩:=zero z bn;refine ⟨.tuple #[ba,.bool false],?_,by simp only [Rel,bk];exact ⟨_,rfl,_,_,rfl,z2,_,_,rfl,rfl,rfl⟩⟩;simp only [Instr.typeAssert,Sem.run_bind,hu,Result.andThen_ok];cases bV:aS.bg<;>first
       | exact absurd bV (re _)
       | (simp only [if_true,Sem.run_bind,b6,Result.andThen_ok];rfl)
def hx (P:Program) (call:dU):Prop:=∀f args h v ab,call f args h=.val v ab->True
theorem Rf {rd:Option Nat} {az:Fr} {E:Env} {h ab:ai} {w:World} {call:dU} (bJ:eT P) (c1:hi P call) (dN:hx P call) {o:Oper} {au:Nat} {r:bI} {a:Act} {v:V}
 (he:(fD P o).run call r h=.val v ab) (k:RegRel0 E au r a) (s:bf az E h w) {K:Act->World->Prop} {Q:Exit->Act->World->Prop}
 (dQ:∀ax x ao,E.le ax->Rel ax v x->bf az ax ab ao->K (a.put o.dst x) ao):o.wpIn (cA rd) 0 P a w K Q:=by
 obtain ⟨dst,op,type,pos,after,guard⟩:=o;cases op<;>simp only [fD] at he<;>try (simp [dt.none] at he;done)
 case move x=>
  simp only [a8.val.injEq] at he;obtain ⟨rfl,rfl⟩:=he;exact gP (m:=pure (a.eval x)) rfl (df.plain s rfl (dM k x)) dQ
 case assign x=>
  simp only [a8.val.injEq] at he;obtain ⟨rfl,rfl⟩:=he;exact gP (m:=pure (a.eval x)) rfl (df.plain s rfl (dM k x)) dQ
 case pick c x y=>
  have aD:=dM k c;generalize (bT c).run r=Nx at he aD;cases Nx<;>simp only at he<;>try (cases he;done)
  rename_i t;simp only [a8.val.injEq] at he;obtain ⟨rfl,rfl⟩:=he;simp only [Rel] at aD;refine gP (m:=do pure (if <-asBool (a.eval c) then a.eval x else a.eval y)) (by simp only [execOp,bind_assoc,pure_bind]) (df.plain (Z:=if t then a.eval x else a.eval y) s ?_ ?_) dQ
  . rw [aD];rfl
  . cases t
    . exact dM k y
    . exact dM k x
 case alloc t=>
  cases aw:a_ P t with
  | none=>rw [aw] at he;simp [dt.none] at he
  | some aS=>
    rw [aw] at he;simp only at he;cases bn:aS.zero with
    | none=>rw [bn] at he;simp [dt.none] at he
    | some z=>
      rw [bn] at he;simp only at he;cases aV:gM h z.cells with
      | none=>rw [aV] at he;cases he
      | some aa=>
        rw [aV] at he;simp only [hr,a8.val.injEq] at he;obtain ⟨rfl,rfl⟩:=he;obtain ⟨x,ak,ou,_⟩:=tp (P:=P) (E:=E) aw bn w;obtain ⟨ax,g1,g2,g3,g4⟩:=Gi (P:=P) s ou aV t;have JC:(newRow t x.cells).run P w=.ok ⟨w.heap.size,0,none⟩ {w with heap:=w.heap.push (.cells x.cells t)}:=by simpa using g3
        have JD:bf az ax aa {w with heap:=w.heap.push (.cells x.cells t)}:=by simpa using g4
        exact gP (m:=Instr.alloc t true (.tuple #[])) rfl ⟨.pointer (some ⟨w.heap.size,0,none⟩),_,ax,by simp only [Instr.alloc,Sem.run_bind,ak,Result.andThen_ok,newVar,JC,Sem.run_pure],g1,by simp only [Rel];exact ⟨_,g2,by simp⟩,JD⟩ dQ
 case box t x=>
  obtain ⟨aB,he⟩:=jR he;cases aV:gM h ((bT x).run r).cells with
  | none=>rw [aV] at he;cases he
  | some aa=>
    rw [aV] at he;simp only [hr,a8.val.injEq] at he;obtain ⟨rfl,rfl⟩:=he;have ay:=(dM k x).cells (fun e=>by rw [e] at aB;cases aB);obtain ⟨ax,g1,g2,g3,g4⟩:=Gi (P:=P) s ay aV t;have JC:(newRow t (a.eval x).cells).run P w=.ok ⟨w.heap.size,0,none⟩ {w with heap:=w.heap.push (.cells (a.eval x).cells t)}:=by simpa using g3
    have JD:bf az ax aa {w with heap:=w.heap.push (.cells (a.eval x).cells t)}:=by simpa using g4
    exact gP (m:=Instr.box t (a.eval x)) rfl ⟨.pointer (some ⟨w.heap.size,0,none⟩),_,ax,by simp only [Instr.box,Sem.run_bind,newVar,JC,Result.andThen_ok,Sem.run_pure],g1,by simp only [Rel];exact ⟨_,g2,by simp⟩,JD⟩ dQ
 case build t bm=>
  obtain ⟨et,rfl⟩:=a8.iY he;clear he;obtain ⟨Z,fO,cN⟩:=aan (P:=P) (GF k bm.toList) et w;refine gP (m:=Instr.build t (bm.map fun (i,x)=>(i,a.eval x))) rfl (df.plain (Z:=Z) s ?_ cN) dQ;rw [Md];exact fO
 case buildSlice t n bm=>
  refine gP (m:=Instr.buildSlice t n (bm.map fun (i,x)=>(i,a.eval x))) rfl ?_ dQ;rw [Md];exact aap s (GF k bm.toList) he
 case load t x=>
  obtain ⟨et,rfl⟩:=a8.iY he;clear he;obtain ⟨Y,fN,cN,_⟩:=Ux (P:=P) s (dM k x) et;exact gP (m:=Instr.loadAt t (a.eval x)) rfl (df.plain s fN cN) dQ
 case store t x y=>
  cases cR:(tc P t).run h ((bT x).run r) ((bT y).run r) with
  | none=>rw [cR] at he;cases he
  | some aa=>
    rw [cR] at he;simp only [hr,a8.val.injEq] at he;obtain ⟨rfl,rfl⟩:=he;obtain ⟨ao,c2,hH⟩:=anC (P:=P) s (dM k x) (dM k y) cR;refine ⟨fun _ _=>trivial,?_⟩;rw [qz (by intro c h;cases h)];have:execOp a.eval ⟨dst,.store t x y,type,pos,after,guard⟩=(do Instr.storeAt t (a.eval x) (a.eval y);pure .skip):=rfl;rw [this,Sem.run_bind,c2];exact dQ E undef ao (Env.le.refl E) (by simp [Rel]) hH
 case nilCheck x=>
  obtain ⟨et,rfl⟩:=a8.iY he;clear he;have ak:=dM k x;generalize (bT x).run r=xI at et ak;have fj:∀X,Rel E xI X->(match X with
   | .pointer none | .nilIface | .nilFunc=>(runtimePanic .nilDeref:Sem Next)
   | .func (.method name) first captured=>
     match (first[0]? :Option Value) with
     | some .nilIface=>runtimePanic .nilDeref
     | some (.iface t w)=>do
       if (<-nilAhead ((<-program).types.size+Made.depth) t w name) != some false then
        unsupported (.noEntry "op/nilCheck.the method's receiver behind this interface value is a nil pointer, or cannot be seen to be none, and the arguments act or may panic (ledger 612)")
       pure (.value (.func (.method name) first captured))
     | _=>pure (.value (.func (.method name) first captured))
   | x=>pure (.value x))=pure (.value X)/\v=xI:=by
   intro X b5;cases xI<;>simp only [uE] at et<;>try (cases et;done)
   all_goals simp only [Option.some.injEq] at et
   all_goals simp only [Rel] at b5
   . obtain ⟨p,_,rfl⟩:=b5;exact ⟨rfl,et.symm⟩
   . rcases b5 with ⟨_,_,rfl,_⟩ | ⟨_,_,_,_,_,rfl⟩<;>exact ⟨rfl,et.symm⟩
   . obtain ⟨p,rfl,_⟩:=b5;exact ⟨rfl,et.symm⟩
   . obtain ⟨_,p,rfl,_⟩:=b5;exact ⟨rfl,et.symm⟩
  obtain ⟨aa,rfl⟩:=fj _ ak;exact gP (m:=pure (a.eval x)) (by simp only [execOp];rw [pure_bind];exact aa) (df.plain s rfl ak) dQ
 case binOp op t x y u=>
  obtain ⟨et,rfl⟩:=a8.iY he;clear he;obtain ⟨Z,fO,cN⟩:=aae (P:=P) (fx:=x) (hs:=y) et (dM k x) (dM k y) w;exact gP rfl (df.plain s fO cN) dQ
 case unOp op t x=>
  obtain ⟨et,rfl⟩:=a8.iY he;clear he;obtain ⟨Z,fO,cN⟩:=aom (P:=P) et (dM k x) w;exact gP (m:=Op.unary op (a.eval x)) rfl (df.plain s fO cN) dQ
 case convert t u x=>exact gP (m:=convert t u (a.eval x)) rfl (acj s he (dM k x)) dQ
 case makeInterface t x=>
  cases aw:a_ P t with
  | none=>rw [aw] at he;simp [dt.none] at he
  | some aS=>
    rw [aw] at he;simp only at he;cases ae:Nat.beq (fl aS.bg) 5 with
    | true=>rw [ae] at he;simp [dt.none] at he
    | false=>
      rw [ae] at he;simp only [cond_false,a8.val.injEq] at he;obtain ⟨rfl,rfl⟩:=he;refine gP (m:=Instr.makeInterface t (a.eval x)) rfl (df.plain (Z:=.iface t (a.eval x)) s ?_ ?_) dQ
      . have hu:=fR aw w;simp only [Instr.makeInterface,Sem.run_bind,hu,Result.andThen_ok];cases bV:aS.bg<;>first
         | rfl
         | (rw [bV] at ae;simp [fl] at ae)
      . simp only [Rel];exact ⟨_,rfl,dM k x⟩
 case makeFunc fn first e4=>
  cases fn<;>simp only at he<;>try (simp [dt.none] at he;done)
  rename_i f;cases aA:(first.isEmpty&&!Nat.beq f dC) with
  | false=>
    rw [aA] at he;simp only [cond_false] at he;cases jX:(e4.isEmpty&&!Nat.beq f dC) with
    | false=>rw [jX] at he;simp [dt.none] at he
    | true=>
      rw [jX] at he;simp only [cond_true,a8.val.injEq] at he;obtain ⟨rfl,rfl⟩:=he;simp only [Bool.and_eq_true,Bool.not_eq_true'] at jX;have Kg:f≠dC:=fun e=>by rw [e] at jX;exact absurd jX.2 (by decide)
      have Kc:e4=#[]:=by simpa using jX.1
      subst Kc;refine gP (m:=Instr.makeFunc (.func f) (first.map a.eval) #[]) (by simp [execOp]) (df.plain s rfl ?_) dQ;simp only [Rel];exact ⟨Kg,_,rfl,by rw [LG];simpa using qY k first.toList⟩
  | true=>
    rw [aA] at he;simp only [cond_true,a8.val.injEq] at he;obtain ⟨rfl,rfl⟩:=he;simp only [Bool.and_eq_true,Bool.not_eq_true'] at aA;have Kg:f≠dC:=fun e=>by rw [e] at aA;exact absurd aA.2 (by decide)
    have Kc:first=#[]:=by simpa using aA.1
    subst Kc;refine gP (m:=Instr.makeFunc (.func f) #[] (e4.map a.eval)) (by simp [execOp]) (df.plain s rfl ?_) dQ;simp only [Rel];exact .inl ⟨Kg,_,rfl,by rw [LG];simpa using qY k e4.toList⟩
 case makeSlice t l c=>exact gP (m:=Instr.makeSlice t (a.eval l) (a.eval c)) rfl (ako s (dM k l) (dM k c) he) dQ
 case slice t x bB an ei=>
  obtain ⟨et,rfl⟩:=a8.iY he;clear he;obtain ⟨Z,fO,cN⟩:=anh (P:=P) et (dM k x) (GC k bB) (GC k an) (GC k ei) w;exact gP (m:=Instr.sliceAt t (a.eval x) (bB.map a.eval) (an.map a.eval) (ei.map a.eval)) rfl (df.plain s fO cN) dQ
 case fieldAddr t x i=>
  obtain ⟨et,rfl⟩:=a8.iY he;clear he;obtain ⟨Z,fO,cN⟩:=adl (P:=P) et (dM k x) w;exact gP (m:=Instr.fieldAt t (a.eval x) i) rfl (df.plain s fO cN) dQ
 case field t x i=>
  obtain ⟨et,rfl⟩:=a8.iY he;clear he;obtain ⟨Z,fO,cN⟩:=adm (P:=P) et (dM k x) w;exact gP (m:=Instr.field t (a.eval x) i) rfl (df.plain s fO cN) dQ
 case indexAddr t x i=>
  obtain ⟨et,rfl⟩:=a8.iY he;clear he;obtain ⟨Z,fO,cN⟩:=agT (P:=P) et (dM k x) (dM k i) w;exact gP (m:=Instr.indexAt t (a.eval x) (a.eval i)) rfl (df.plain s fO cN) dQ
 case index t x i=>
  obtain ⟨et,rfl⟩:=a8.iY he;clear he;obtain ⟨Z,fO,cN⟩:=agV (P:=P) et (dM k x) (dM k i) w;exact gP (m:=Instr.index t (a.eval x) (a.eval i)) rfl (df.plain s fO cN) dQ
 case range t x=>exact gP (m:=Instr.range t (a.eval x)) rfl (amn s (dM k x) he) dQ
 case next it zi=>
  cases zi with
  | true=>exact gP (m:=Instr.next (a.eval it) true type) rfl (akH s (dM k it) he) dQ
  | false=>exact gP (m:=Instr.next (a.eval it) false type) rfl (akF s (dM k it) he) dQ
 case entry it=>exact gP (m:=Instr.entry (a.eval it)) rfl (acZ s (dM k it) he) dQ
 case lookup t x y ok=>
  obtain ⟨et,rfl⟩:=a8.iY he;clear he;obtain ⟨Z,fO,cN⟩:=ake (P:=P) s (dM k x) (dM k y) et;exact gP (m:=Instr.lookup t (a.eval x) (a.eval y) ok) rfl (df.plain s fO cN) dQ
 case mapEntry t m y=>exact gP (m:=Instr.mapEntry t (a.eval m) (a.eval y)) rfl (akr s (dM k m) (dM k y) he) dQ
 case entryStore t m st x=>
  cases cR:tQ h ((bT m).run r) ((bT st).run r) ((bT x).run r) with
  | none=>rw [cR] at he;cases he
  | some aa=>
    rw [cR] at he;simp only [hr,a8.val.injEq] at he;obtain ⟨rfl,rfl⟩:=he;obtain ⟨ao,c2,hH⟩:=acY (P:=P) (t:=t) s (dM k m) (dM k st) (dM k x) cR;refine ⟨fun _ _=>trivial,?_⟩;rw [qz (by intro c h;cases h)];have:execOp a.eval ⟨dst,.entryStore t m st x,type,pos,after,guard⟩=(do Instr.entryStore t (a.eval m) (a.eval st) (a.eval x);pure .skip):=rfl;rw [this,Sem.run_bind,c2];exact dQ E undef ao (Env.le.refl E) (by simp [Rel]) hH
 case mapUpdate t m y x=>
  cases cR:(pJ P t).run h ((bT m).run r) ((bT y).run r) ((bT x).run r) with
  | none=>rw [cR] at he;cases he
  | some aa=>
    rw [cR] at he;simp only [hr,a8.val.injEq] at he;obtain ⟨rfl,rfl⟩:=he;obtain ⟨ao,c2,hH⟩:=XI (P:=P) s (dM k m) (dM k y) (dM k x) cR;refine ⟨fun _ _=>trivial,?_⟩;rw [qz (by intro c h;cases h)];have:execOp a.eval ⟨dst,.mapUpdate t m y x,type,pos,after,guard⟩=(do Instr.mapUpdate t (a.eval m) (a.eval y) (a.eval x);pure .skip):=rfl;rw [this,Sem.run_bind,c2];exact dQ E undef ao (Env.le.refl E) (by simp [Rel]) hH
 case insert t m y x=>
  cases cR:(pJ P t).run h ((bT m).run r) ((bT y).run r) ((bT x).run r) with
  | none=>rw [cR] at he;cases he
  | some aa=>
    rw [cR] at he;simp only [hr,a8.val.injEq] at he;obtain ⟨rfl,rfl⟩:=he;obtain ⟨ao,c2,hH⟩:=XI (P:=P) s (dM k m) (dM k y) (dM k x) cR;refine ⟨fun _ _=>trivial,?_⟩;rw [qz (by intro c h;cases h)];have:execOp a.eval ⟨dst,.insert t m y x,type,pos,after,guard⟩=(do Instr.mapUpdate t (a.eval m) (a.eval y) (a.eval x);pure .skip):=rfl;rw [this,Sem.run_bind,c2];exact dQ E undef ao (Env.le.refl E) (by simp [Rel]) hH
 case makeMap t x=>exact gP (m:=Instr.makeMap t (x.map a.eval)) rfl (akn s (GC k x) he) dQ
 case panic x=>
  exfalso;unfold Mc at he
  split at he<;>cases he
 case typeAssert x u7 t ok=>
  cases aw:a_ P t with
  | none=>rw [aw] at he;simp [dt.none] at he
  | some aS=>
    rw [aw] at he;simp only at he;cases ae:Nat.beq (fl aS.bg) 5 with
    | true=>rw [ae] at he;simp [dt.none] at he
    | false=>
      rw [ae] at he;simp only [cond_false] at he;obtain ⟨et,rfl⟩:=a8.iY he;clear he;obtain ⟨Z,fO,cN⟩:=ZV aw ae (u7:=u7) (dM k x) et w;exact gP (m:=Instr.typeAssert (a.eval x) u7 t ok) rfl (df.plain s fO cN) dQ
 case extract x i=>
  have ak:=dM k x;generalize (bT x).run r=xI at he ak;cases xI<;>simp only at he<;>try (cases he;done)
  obtain ⟨et,rfl⟩:=a8.iY he;clear he;simp only [Rel] at ak;obtain ⟨arr,b5,ay⟩:=ak;obtain ⟨y,aZ,cN⟩:=ay.get i v et;refine gP (m:=Instr.extract (a.eval x) i) rfl (df.plain (Z:=y) s ?_ cN) dQ;rw [b5];have:arr[i]? =some y:=by simpa using aZ
  simp only [Instr.extract,this,Sem.run_pure]
 case call c=>
  obtain ⟨callee,args,types⟩:=c;cases callee with
  | invoke _ _=>simp [sf,dt.none] at he
  | builtin b=>
    simp only [sf] at he;obtain ⟨cs,ho⟩:∃cs,execOp a.eval ⟨dst,.call ⟨.builtin b,args,types⟩,type,pos,after,guard⟩=Go.builtin b types type cs (args.map a.eval):=by simp only [execOp,resolve,pure_bind,invoke];exact ⟨_,rfl⟩
    obtain ⟨m,hm,aB⟩:=aar (P:=P) (ty:=type) (cs:=cs) s (qY k args.toList) he;refine gP (m:=m) ?_ aB dQ;rw [ho,<-hm,LG]
  | value f=>
    simp only [sf] at he;have aA:=dM k f;generalize agr:(bT f).run r=xF at he aA;cases xF<;>simp only [V.zD] at he<;>try (cases he;done)
    rotate_left
    . rename_i g cs;simp only [Rel] at aA;refine ⟨fun _ _=>trivial,?_⟩;rw [qz (by intro c h;cases h)];obtain ⟨aB,first,b5,ay⟩:=aA;have p5:=bk.append ay (qY k args.toList);have o7:=c1.fn _ _ _ _ _ _ aB he E w _ p5 s;have hex:execOp a.eval ⟨dst,.call ⟨.value f,args,types⟩,type,pos,after,guard⟩=callFunc g (first++args.map a.eval):=by
       simp only [execOp,resolve,b5,Deferred.ofValue,pure_bind,invoke];simp
      have e:first++args.map a.eval=(first.toList++args.toList.map a.eval).toArray:=by apply Array.ext';simp
      rw [hex,e];rcases o7 with ⟨⟨fn,kD,ae⟩,aD⟩ | ⟨ax,x,ao,aF,ar,av,aK⟩
      case inr=>
       rw [aF];exact dQ ax x ao ar av aK
      rw [uV bJ kD ae];refine ⟨fun h=>by simp at h,tJ.2 (aD.mono fun e ao aC=>?_)⟩;obtain ⟨ax,x,rfl,ar,av,aK⟩:=aC;exact dQ ax x ao ar av aK
    rename_i g cs;simp only [Rel] at aA;refine ⟨fun _ _=>trivial,?_⟩;rw [qz (by intro c h;cases h)];rcases aA with ⟨aB,e4,b5,ay⟩ | ⟨aB,b,p,ho,ag,b5⟩
    . have p5:=(qY k args.toList).append ay;have o7:=c1.fn _ _ _ _ _ _ aB he E w _ p5 s;have hex:execOp a.eval ⟨dst,.call ⟨.value f,args,types⟩,type,pos,after,guard⟩=callFunc g (args.map a.eval++e4):=by
       simp only [execOp,resolve,b5,Deferred.ofValue,pure_bind,invoke];simp
      have e:args.map a.eval++e4=(args.toList.map a.eval++e4.toList).toArray:=by apply Array.ext';simp
      rw [hex,e];rcases o7 with ⟨⟨fn,kD,ae⟩,aD⟩ | ⟨ax,x,ao,aF,ar,av,aK⟩
      case inr=>
       rw [aF];exact dQ ax x ao ar av aK
      rw [uV bJ kD ae];refine ⟨fun h=>by simp at h,tJ.2 (aD.mono fun e ao aC=>?_)⟩;obtain ⟨ax,x,rfl,ar,av,aK⟩:=aC;exact dQ ax x ao ar av aK
    . subst aB ho;obtain ⟨kV,tmps,assign,body,ar,av⟩:=c1.X5 _ _ _ _ _ _ he E w _ p (qY k args.toList) s ag;have hex:execOp a.eval ⟨dst,.call ⟨.value f,args,types⟩,type,pos,after,guard⟩=Instr.yield p.aM (args.map a.eval):=by
       simp only [execOp,resolve,b5,Deferred.ofValue,pure_bind,invoke];simp
      have e:args.map a.eval=(args.toList.map a.eval).toArray:=by apply Array.ext';simp
      rw [hex,e,ar];refine ⟨fun h=>by simp at h,RoundIn.mono av fun e ao aC=>?_⟩;obtain ⟨ax,x,rfl,bw,cw,cn⟩:=aC;exact dQ ax x ao bw cw cn
end
section
variable {P:Program}
theorem JK {E:Env} {au:Nat} {r:bI} {a:Act} (k:RegRel0 E au r a) {all:Array Oper} {j:Nat} {g:Oper} {d:Nat} (aU:all[j]? =some g) (bc:g.dst=some d) (aeU:d<au) (wi:d<=top):
 (∀b,T.get .bad (aj d) r=.bool b->yielded all a.tmps j=some b)/\(∀ah,T.get .bad (aj d) r=.tuple ah->yielded all a.tmps j=none):=by
 have aF:=k.aq d wi;have aO:d<a.tmps.size:=by rw [k.size];exact aeU
 have he:a.tmps[d]? =some (a.tmps.getD d undef):=by simp [Array.getD_eq_getD_getElem?,aO]
 refine ⟨fun b ae=>?_,fun ah ae=>?_⟩
 . rw [ae] at aF;simp only [Rel] at aF;simp only [yielded,aU,Option.bind,bc,he,aF]
 . rw [ae] at aF;simp only [Rel] at aF;obtain ⟨arr,aF,_⟩:=aF;simp only [yielded,aU,Option.bind,bc,he,aF]
theorem Rb {rd:Option Nat} {az:Fr} {E:Env} {h ab:ai} {w:World} {call:dU} (bJ:eT P) (c1:hi P call) {o:Oper} {au:Nat} {r:bI} {a:Act} {v:V} (hm:ma o.op=true)
 (he:(fD P o).run call r h=.cT v ab) (k:RegRel0 E au r a) (s:bf az E h w) {K:Act->World->Prop} {Q:Exit->Act->World->Prop}
 (cO:∀ax x ao,E.le ax->Rel ax v x->bf az ax ab ao->Q (.panic (qu x)) a ao):o.wpIn (cA rd) 0 P a w K Q:=by
 obtain ⟨dst,op,type,pos,after,guard⟩:=o;cases op<;>simp only [ma] at hm<;>try (cases hm;done)
 all_goals simp only [fD] at he
 case panic x=>
  have ak:=dM k x;generalize (bT x).run r=xI at he ak;unfold Mc at he;cases xI<;>simp only at he<;>try (cases he;done)
  simp only [a8.cT.injEq] at he;obtain ⟨rfl,rfl⟩:=he;have B0:=ak;simp only [Rel] at ak;obtain ⟨Y,b5,fN⟩:=ak;refine ⟨fun _ _=>trivial,?_⟩;rw [qz (by intro c h;cases h)];have hex:(execOp a.eval ⟨dst,.panic x,type,pos,after,guard⟩).run P w=.halt (.panic (a.eval x)) w:=by simp only [execOp,b5,Instr.panic,Sem.run_bind];rfl
  rw [hex];exact cO E _ w (Env.le.refl E) B0 s
 case call c=>
  obtain ⟨callee,args,types⟩:=c;cases callee<;>simp only at hm<;>try (cases hm;done)
  rename_i f;simp only [sf] at he;have aA:=dM k f;generalize agr:(bT f).run r=xF at he aA;cases xF<;>simp only [V.zD] at he<;>try (cases he;done)
  rotate_left
  . rename_i g cs;simp only [Rel] at aA;refine ⟨fun _ _=>trivial,?_⟩;rw [qz (by intro c h;cases h)];obtain ⟨aB,first,b5,ay⟩:=aA;have p5:=bk.append ay (qY k args.toList);obtain ⟨⟨fn,kD,ae⟩,aD⟩:=c1.cT _ _ _ _ _ _ aB he E w _ p5 s;have hex:execOp a.eval ⟨dst,.call ⟨.value f,args,types⟩,type,pos,after,guard⟩=callFunc g (first++args.map a.eval):=by
     simp only [execOp,resolve,b5,Deferred.ofValue,pure_bind,invoke];simp
    have e:first++args.map a.eval=(first.toList++args.toList.map a.eval).toArray:=by apply Array.ext';simp
    rw [hex,e,uV bJ kD ae];refine ⟨fun h=>by simp at h,tJ.2 (aD.mono fun e ao aC=>?_)⟩;obtain ⟨ax,x,rfl,ar,av,aK⟩:=aC;exact cO ax x ao ar av aK
  rename_i g cs;simp only [Rel] at aA;refine ⟨fun _ _=>trivial,?_⟩;rw [qz (by intro c h;cases h)];rcases aA with ⟨aB,e4,b5,ay⟩ | ⟨aB,b,p,ho,ag,b5⟩
  . have p5:=(qY k args.toList).append ay;obtain ⟨⟨fn,kD,ae⟩,aD⟩:=c1.cT _ _ _ _ _ _ aB he E w _ p5 s;have hex:execOp a.eval ⟨dst,.call ⟨.value f,args,types⟩,type,pos,after,guard⟩=callFunc g (args.map a.eval++e4):=by
     simp only [execOp,resolve,b5,Deferred.ofValue,pure_bind,invoke];simp
    have e:args.map a.eval++e4=(args.toList.map a.eval++e4.toList).toArray:=by apply Array.ext';simp
    rw [hex,e,uV bJ kD ae];refine ⟨fun h=>by simp at h,tJ.2 (aD.mono fun e ao aC=>?_)⟩;obtain ⟨ax,x,rfl,ar,av,aK⟩:=aC;exact cO ax x ao ar av aK
  . subst aB;exact absurd he (c1.X6 _ _ _ _)
def n1 (az:Fr) (E:Env) (au:Nat) (K:Act->World->Prop) (Q:Exit->Act->World->Prop):oW->Prop
 | .ok r h=>∀ax bu ao,E.le ax->fL ax au r bu->bf az ax h ao->K bu ao
 | .cT v r h=>∀ax bu ao x,E.le ax->fL ax au r bu->Rel ax v x->bf az ax h ao->Q (.panic (qu x)) bu ao
 | .fail=>False
theorem n1.up {az:Fr} {E ax:Env} (h:E.le ax) {au:Nat} {K:Act->World->Prop} {Q:Exit->Act->World->Prop} {x:oW} (k:n1 az E au K Q x):n1 az ax au K Q x:=by
 cases x with
 | ok r bl=>exact fun cp a w ad=>k cp a w (h.trans ad)
 | cT v r bl=>exact fun cp a w x ad=>k cp a w x (h.trans ad)
 | fail=>exact k
theorem Vq {rd:Option Nat} {az:Fr} {E:Env} {h:ai} {w:World} {call:dU} (bJ:eT P) (c1:hi P call) (dN:hx P call) {all:Array Oper} {i:Nat} {o:Oper} (an:all[i]? =some o) {au:Nat} {r:bI} {a:Act}
 (bc:fa au o.dst=true) (k:fL E au r a) (s:bf az E h w) {K:Act->World->Prop} {Q:Exit->Act->World->Prop} (hw:Region.wanted o (yielded all a.tmps)=true)
 (ag:n1 az E au K Q (GB (ma o.op) (fD P o) (ga o.dst) call r h)):wpOpIn (cA rd) 0 P all Q i K a w:=by
 simp only [wpOpIn,an,hw,if_true];unfold GB at ag;cases a6:(fD P o).run call r h with
 | fail=>rw [a6] at ag;exact ag.elim
 | val v aa=>
   rw [a6] at ag;exact Rf bJ c1 dN a6 k.toRegRel0 s fun ax x ao ar av aK=>ag ax _ ao ar ((k.mono ar).put bc av) aK
 | cT v aa=>
   rw [a6] at ag;simp only at ag;cases hm:ma o.op with
   | false=>rw [hm] at ag;exact ag.elim
   | true=>
     rw [hm] at ag;exact Rb bJ c1 hm a6 k.toRegRel0 s fun ax x ao ar av aK=>ag ax a ao x ar (k.mono ar) av aK
theorem XH {rd:Option Nat} {az:Fr} {E:Env} {h:ai} {w:World} {all:Array Oper} {i:Nat} {o:Oper} (an:all[i]? =some o) {au:Nat} {r:bI} {a:Act}
 (bc:fa au o.dst=true) (k:fL E au r a) (s:bf az E h w) {K:Act->World->Prop} {Q:Exit->Act->World->Prop} (hw:Region.wanted o (yielded all a.tmps)=false)
 (ag:n1 az E au K Q (.ok ((ga o.dst).run r (.tuple [])) h)):wpOpIn (cA rd) 0 P all Q i K a w:=by
 simp only [wpOpIn,an,hw,Bool.false_eq_true,if_false];exact ⟨fun _ _=>trivial,ag E _ w (Env.le.refl E) (k.put bc (by simp only [Rel];exact ⟨#[],rfl,rfl⟩)) s⟩
theorem GA {rd:Option Nat} {az:Fr} {E:Env} {h:ai} {w:World} {call:dU} (bJ:eT P) (c1:hi P call) (dN:hx P call) {all:Array Oper} {i:Nat} {o:Oper} (an:all[i]? =some o) {au:Nat} {r:bI} {a:Act}
 (bc:fa au o.dst=true) (k:fL E au r a) (s:bf az E h w) {K:Act->World->Prop} {Q:Exit->Act->World->Prop}
 (ag:n1 az E au K Q ((zF P au all o).run call r h)):wpOpIn (cA rd) 0 P all Q i K a w:=by
 unfold zF at ag;cases aB:o.guard with
 | none=>
   rw [aB] at ag;exact Vq bJ c1 dN an bc k s (by simp [Region.wanted,aB]) ag
 | some qh=>
   obtain ⟨j,want⟩:=qh;rw [aB] at ag;simp only at ag;cases aU:all[j]? with
   | none=>rw [aU] at ag;exact ag.elim
   | some g=>
     rw [aU] at ag;simp only at ag;cases kZ:g.dst with
     | none=>rw [kZ] at ag;exact ag.elim
     | some d=>
       rw [kZ] at ag;simp only at ag;cases aD:(Nat.blt d au&&Nat.ble d top) with
       | false=>rw [aD] at ag;exact ag.elim
       | true=>
         rw [aD] at ag;simp only [cond_true,Sm,o6] at ag;simp only [Bool.and_eq_true,Nat.blt_eq,Nat.ble_eq] at aD;obtain ⟨g1,g2⟩:=JK k.toRegRel0 aU kZ aD.1 aD.2;cases bh:T.get .bad (aj d) r<;>rw [bh] at ag<;>simp only at ag<;>try (exact ag.elim)
         . rename_i b;have aZ:=g1 b bh;cases ae:(bif want then b else !b) with
           | true=>
             rw [ae] at ag;simp only [cond_true] at ag;refine Vq bJ c1 dN an bc k s ?_ ag;simp only [Region.wanted,aB,aZ];cases want<;>cases b<;>simp_all
           | false=>
             rw [ae] at ag;simp only [cond_false] at ag;refine XH an bc k s ?_ ag;simp only [Region.wanted,aB,aZ];cases want<;>cases b<;>simp_all
         . rename_i ah;have aZ:=g2 ah bh;refine XH an bc k s ?_ ag;simp only [Region.wanted,aB,aZ];rfl
theorem lK.list {E:Env} {v:V} {ds:List Deferred} (k:lK E v ds):nT E v.list ds:=by
 cases v<;>first
  | exact k
theorem als {rd:Option Nat} {az:Fr} {E:Env} {h:ai} {w:World} {call:dU} (bJ:eT P) (c1:hi P call) (dN:hx P call) {all:Array Oper} {i:Nat} {o:Oper} (an:all[i]? =some o) {au:Nat} {r:bI} {a:Act}
 (aF:rd=none\/LV o=true) (k:fL E au r a) (s:bf az E h w) {K:Act->World->Prop} {Q:Exit->Act->World->Prop}
 (ag:n1 az E au K Q ((Gz P au all o).run call r h)):wpOpIn (cA rd) 0 P all Q i K a w:=by
 unfold Gz at ag;cases bc:fa au o.dst with
 | false=>rw [bc] at ag;exact ag.elim
 | true=>
   rw [bc] at ag;simp only [cond_true] at ag;obtain ⟨dst,op,type,pos,after,guard⟩:=o;cases op with
   | defer c=>
     rcases aF with rfl | aF
     case inr=>cases aF
     simp only at ag;cases guard with
     | some _=>exact ag.elim
     | none=>
       simp only at ag;obtain ⟨callee,args,types⟩:=c;simp only [Ro] at ag;cases callee<;>simp only at ag<;>try (exact ag.elim)
       rename_i f;unfold Rp at ag;have aA:=dM k.toRegRel0 f;generalize (bT f).run r=xF at ag aA;cases xF<;>simp only at ag<;>try (exact ag.elim)
       rename_i g cs;cases aZ:Nat.beq g dC with
       | true=>rw [aZ] at ag;exact ag.elim
       | false=>
         rw [aZ] at ag;simp only [cond_false] at ag;have Fg:g≠dC:=fun e=>by rw [e] at aZ;exact absurd aZ (by decide)
         simp only [Rel] at aA;rcases aA with ⟨_,e4,b5,ay⟩ | ⟨aB,_⟩
         case inr=>exact absurd aB Fg
         simp only [wpOpIn,an,Region.wanted,if_true];refine ⟨fun _ _=>trivial,?_⟩;have hex:((Oper.mk dst (.defer ⟨.value f,args,types⟩) type pos after none).semAt (cA none).round a.eval).run P w=.ok (.defer {target:=.fn (.func g) e4,args:=#[]++args.map a.eval}) w:=by simp only [Oper.semAt_none,execOp,resolve,b5,Deferred.ofValue,pure_bind];rfl
         rw [hex];refine ag E _ w (Env.le.refl E) (fL.put ?_ bc (by simp only [Rel];exact ⟨#[],rfl,rfl⟩)) s;refine ⟨⟨k.size,fun t aw=>?_⟩,?_⟩
         rotate_left
         . rw [T.iy,if_pos rfl];simp only [lK,nT];refine ⟨_,_,rfl,⟨Fg,e4,rfl,?_⟩,k.defers.list⟩;have:=(qY k.toRegRel0 args.toList).append ay;simpa using this
         . rw [T.iy,if_neg (fun e=>xf aw e.symm)];exact k.aq t aw
   | binOp op t x y u=>
     simp only at ag;cases guard with
     | some g=>exact GA bJ c1 dN an bc k s ag
     | none=>
       simp only at ag;cases lZ:xl P op t with
       | none=>rw [lZ] at ag;exact GA bJ c1 dN an bc k s ag
       | some neg=>
         rw [lZ] at ag;simp only [VX] at ag;cases aC:ht h ((bT x).run r) ((bT y).run r) with
         | none=>rw [aC] at ag;exact GA bJ c1 dN an bc k s ag
         | some b=>
           rw [aC] at ag;simp only [wpOpIn,an,Region.wanted,if_true];obtain ⟨Z,fO,cN⟩:=VV (P:=P) (fx:=x) (hs:=y) s lZ aC (dM k.toRegRel0 x) (dM k.toRegRel0 y);exact gP rfl (df.plain s fO cN) fun ax v ao ar av aK=>ag ax _ ao ar ((k.mono ar).put bc av) aK
   | _=>exact GA bJ c1 dN an bc k s ag
theorem Vr {rd:Option Nat} {az:Fr} {call:dU} (bJ:eT P) (c1:hi P call) (dN:hx P call) {all:Array Oper} {au:Nat} {Q:Exit->Act->World->Prop}:∀(l:List Oper) (i:Nat),(∀j,l[j]? =all[i+j]?)->(rd=none\/∀o ∈ l,LV o=true)->
 ∀(E:Env) (r:bI) (h:ai) (a:Act) (w:World),n1 az E au (Q .normal) Q ((CJ P au all l).run call r h)->fL E au r a->bf az E h w->
 wpOpsIn (cA rd) 0 P all Q (List.range' i l.length) a w
 | [],i,_,_,E,r,h,a,w,ag,k,s=>by simp only [CJ] at ag;simp only [List.length_nil,List.range'_zero,wpOpsIn];exact ag E a w (Env.le.refl E) k s
 | o::os,i,ay,aF,E,r,h,a,w,ag,k,s=>by
   simp only [CJ,WH] at ag;have an:all[i]? =some o:=by have:=ay 0;simpa using this.symm
   rw [List.length_cons,List.range'_succ,wpOpsIn_cons];refine als bJ c1 dN an (aF.imp id fun h=>h o (by simp)) k s ?_;cases aa:(Gz P au all o).run call r h with
   | fail=>rw [aa] at ag;exact ag
   | cT v bw q9=>rw [aa] at ag;exact ag
   | ok bw q9=>
     rw [aa] at ag;simp only at ag;intro ax bu ao ar av aK;refine Vr bJ c1 dN os (i+1) (fun j=>?_) (aF.imp id fun h ck hp=>h ck (by simp [hp])) ax bw q9 bu ao (ag.up ar) av aK;have:=ay (j+1);simp only [List.getElem?_cons_succ] at this;rw [this];congr 1;omega
end
theorem RN {a b:V} (h:EE a b=true):a=b:=by
 cases a<;>cases b<;>simp only [EE] at h<;>first
  | rfl
  | (cases h;done)
  | (rename_i x y;cases x<;>cases y<;>simp_all;done)
  | (rename_i k x l y
     simp only [Bool.and_eq_true] at h;have aa:=tR h.1;have ad:=h.2;rw [ln,beq_iff_eq] at ad;rw [aa,ad];done)
  | (rw [vD,beq_iff_eq] at h;rw [h];done)
  | (simp only [Bool.and_eq_true,Nat.beq_eq] at h
     obtain ⟨aa,ad,aJ,bE⟩:=h;rw [aQ.ln aa,ad,aJ,bE];done)
  | (simp only [Bool.and_eq_true,Nat.beq_eq] at h
     rw [aQ.ln h.1,h.2];done)
  | (rw [aQ.ln h];done)
  | (simp only [Bool.and_eq_true,Nat.beq_eq,List.isEmpty_iff] at h
     obtain ⟨aa,ad,aJ⟩:=h;rw [aa,ad,aJ];done)
  | (simp only [Bool.and_eq_true,List.isEmpty_iff] at h
     rw [h.1,h.2];done)
theorem Jt {f:V->V->Bool} (aA:∀a b,f a b=true->a=b):∀{a b:List V},yp f a b=true->a=b
 | [],[],_=>rfl
 | [],_::_,h=>by cases h
 | _::_,[],h=>by cases h
 | a::x,b::y,h=>by
   simp only [yp] at h;cases aa:f a b with
   | false=>rw [aa] at h;cases h
   | true=>
     rw [aa] at h;rw [aA a b aa,Jt aA h]
theorem aac {c x:Bool} (h:(bif c then x else false)=true):c=true/\x=true:=by
 cases c with
 | false=>cases h
 | true=>exact ⟨rfl,h⟩
theorem RO:∀(d:Nat) (a b:V),vR d a b=true->a=b
 | 0,a,b,h=>RN h
 | d+1,a,b,h=>by
   have br:=RO d;cases a<;>simp only [vR] at h<;>first
    | exact RN h
    | (cases b<;>simp only at h<;>first
        | (cases h;done)
        | rfl
        | (rw [Jt br h];done)
        | (obtain ⟨aa,ad⟩:=aac h
           rw [Nat.beq_eq] at aa;rw [aa]
           first
            | rw [Jt br ad]
            | rw [br _ _ ad]))
theorem Ju {a b:V} (h:Be a b=true):a=b:=RO 5 a b h
theorem AV (m i:Nat):gl m i=m.testBit i:=by
 rw [Nat.testBit_eq_decide_div_mod_eq];unfold gl;have e:Nat.mod (Nat.shiftRight m i) 2=m / 2 ^ i % 2:=by show (m >>> i) % 2=_;rw [Nat.shiftRight_eq_div_pow]
 rw [e,Bool.eq_iff_iff,Nat.beq_eq,decide_eq_true_eq]
theorem LH {eb:List Nat} {i:Nat}:∀{es:List Edge},gl (uC eb es) i=true->∃e ∈ es,vE e=true/\(e.on=i\/gl ((eb[e.on]?).getD 0) i=true)
 | [],h=>by simp [uC,AV] at h
 | e::es,h=>by
   simp only [uC] at h;cases ae:vE e with
   | false=>
     rw [ae] at h;obtain ⟨cZ,aa,ad⟩:=LH (es:=es) h;exact ⟨cZ,by simp [aa],ad⟩
   | true=>
     rw [ae] at h;simp only [cond_true,AV] at h;have ab:((1 <<< e.on||| (eb[e.on]?).getD 0)||| uC eb es).testBit i=true:=h;rw [Nat.testBit_or,Nat.testBit_or,Bool.or_eq_true,Bool.or_eq_true] at ab;rcases ab with (aa | aa) | aa
     . refine ⟨e,by simp,ae,.inl ?_⟩;rw [Nat.testBit_shiftLeft] at aa;simp only [Bool.and_eq_true,decide_eq_true_eq] at aa;have:=aa.2;rw [Nat.testBit_one_eq_true_iff_self_eq_zero] at this;omega
     . exact ⟨e,by simp,ae,.inr (by rw [AV];exact aa)⟩
     . rw [<-AV] at aa;obtain ⟨cZ,ar,av⟩:=LH (es:=es) aa;exact ⟨cZ,by simp [ar],av⟩
def qI (ops:Array Oper) (L:Nat->Prop):Prop:=∀k o e,L k->ops[k]? =some o->e ∈ o.after.toList->vE e=true->L e.on
theorem Cs {ops:Array Oper} {L:Nat->Prop} (v8:qI ops L):∀(os:List Oper) (eb:List Nat),(∀j,os[j]? =ops[eb.length+j]?)->
 (∀k m i,eb[k]? =some m->gl m i=true->L k->L i)->∀k m i,(eZ eb os)[k]? =some m->gl m i=true->L k->L i
 | [],eb,_,h,k,m,i,aH,ae,eO=>h k m i aH ae eO
 | o::os,eb,pc,h,k,m,i,aH,ae,eO=>by
   simp only [eZ] at aH;refine Cs v8 os (eb++[uC eb o.after.toList]) (fun j=>?_) (fun k m i aH ae eO=>?_) k m i aH ae eO
   . have:=pc (j+1);simp only [List.getElem?_cons_succ] at this;rw [this];congr 1;simp;omega
   . by_cases aO:k<eb.length
     . rw [List.getElem?_append_left aO] at aH;exact h k m i aH ae eO
     . rw [List.getElem?_append_right (by omega)] at aH;have BA:k-eb.length=0:=by
        cases bn:k-eb.length with
        | zero=>rfl
        | succ n=>rw [bn] at aH;simp at aH
       rw [BA] at aH;simp only [List.getElem?_cons_zero,Option.some.injEq] at aH;subst aH;have Fl:k=eb.length:=by omega
       have a6:ops[k]? =some o:=by have:=pc 0;simp only [List.getElem?_cons_zero,Nat.add_zero] at this;rw [Fl];exact this.symm
       obtain ⟨e,he,J1,ie⟩:=LH ae;have St:=v8 k o e eO a6 he J1;rcases ie with rfl | ie
       . exact St
       . cases hm:eb[e.on]? with
         | none=>rw [hm] at ie;simp [AV] at ie
         | some du=>rw [hm] at ie;exact h e.on du i hm ie St
theorem qF {f:Nat->Nat->Oper->Bool}:∀{k:Nat} {ms:List Nat} {os:List Oper},nS f k ms os=true->∀j o,os[j]? =some o->∃m,ms[j]? =some m/\f (k+j) m o=true
 | _,_,[],_,j,o,h=>by simp at h
 | _,[],_::_,h,_,_,_=>by cases h
 | k,m::ms,ck::os,h,j,o,a6=>by
   simp only [nS,Bool.and_eq_true] at h;cases j with
   | zero=>simp only [List.getElem?_cons_zero,Option.some.injEq] at a6;subst a6;exact ⟨m,rfl,h.1⟩
   | succ j=>
     obtain ⟨du,aa,ad⟩:=qF h.2 j o (by simpa using a6);exact ⟨du,by simpa using aa,by rw [show k + (j+1)=k+1+j from by omega];exact ad⟩
theorem NL {f:Nat->Nat->Oper->Bool}:∀{k:Nat} {ms:List Nat} {os:List Oper},ms.length=os.length->(∀j m o,ms[j]? =some m->os[j]? =some o->f (k+j) m o=true)->nS f k ms os=true
 | _,[],[],_,_=>rfl
 | _,[],_::_,h,_=>by simp at h
 | _,_::_,[],h,_=>by simp at h
 | k,m::ms,o::os,h,aA=>by simp only [nS,Bool.and_eq_true];refine ⟨aA 0 m o rfl rfl,NL (by simpa using h) fun j du ck aa ad=>?_⟩;have:=aA (j+1) du ck (by simpa using aa) (by simpa using ad);rw [show k+1+j=k + (j+1) from by omega];exact this
theorem LI:∀(os:List Oper) (eb:List Nat),(eZ eb os).length=eb.length+os.length
 | [],eb=>rfl
 | o::os,eb=>by simp [eZ,LI os];omega
section
variable {P:Program}
theorem Re {o:Oper} {call:dU} {r:bI} {h ab:ai} {v:V} (aC:fe P o.op=false) (he:(fD P o).run call r h=.val v ab):ab=h:=by
 obtain ⟨dst,op,type,pos,after,guard⟩:=o;cases op<;>simp only [fe] at aC<;>try (cases aC;done)
 all_goals simp only [fD] at he
 case convert s d x=>
  unfold qS at he;cases aR:a_ P s with
  | none=>rw [aR] at he;cases he
  | some uX=>
    cases bc:a_ P d with
    | none=>rw [bc] at aC;cases aC
    | some o3=>
      rw [aR,bc] at he;rw [bc] at aC;simp only at he aC;cases hu:o3.bg with
      | int k=>
        rw [hu] at he;obtain ⟨bj,n,_,aa⟩:=s7 he;simp only [a8.val.injEq] at aa;exact aa.2.symm
      | slice e=>rw [hu] at aC;cases aC
      | string=>
        rw [hu] at he;simp only at he;have other:∀x:V,(match x with
         | .str s=>a8.val (.str s) h
         | .int _ n=>.val (.str (Utf8.encode n).data.toList) h
         | _=>.fail)=.val v ab->ab=h:=by
         intro x he;cases x<;>simp only at he<;>first
          | (cases he;done)
          | (simp only [a8.val.injEq] at he;exact he.2.symm)
        cases To:uX.bg with
        | slice e=>
          rw [To] at he;simp only at he;cases cx:a_ P e with
          | none=>rw [cx] at he;cases he
          | some bb=>
            rw [cx] at he;simp only at he;have anF:∀b off len,u0 b off len h=.val v ab->ab=h:=by
             intro b off len he;unfold u0 at he;cases aB:h.get b<;>rw [aB] at he<;>simp only [cf.pG] at he<;>try (cases he;done)
             all_goals
              obtain ⟨_,ad⟩:=jR he;cases agh:oN (lp _ off len)<;>rw [agh] at ad<;>first
               | (cases ad;done)
               | (simp only [a8.val.injEq] at ad;exact ad.2.symm)
            cases eX:bb.bg with
            | int Ce=>
              rw [eX] at he;cases Ce<;>simp only at he<;>try (cases he;done)
              simp only [tM] at he;cases ak:(bT x).run r<;>rw [ak] at he<;>simp only at he<;>first
               | (cases he;done)
               | exact anF _ _ _ he
               | (simp only [a8.val.injEq] at he;exact he.2.symm)
            | _=>rw [eX] at he;cases he
        | _=>rw [To] at he;exact other _ he
      | _=>rw [hu] at he;cases he
 case call c=>
  obtain ⟨callee,args,types⟩:=c;cases callee<;>simp only at aC<;>try (cases aC;done)
  rename_i b;simp only [sf] at he;cases b<;>simp only at aC<;>try (cases aC;done)
  . simp only [qR] at he;cases fk:types.toList with
    | nil=>rw [fk] at he;simp [gu.none] at he
    | cons t cQ=>
      cases cQ with
      | cons _ _=>rw [fk] at he;simp [gu.none] at he
      | nil=>
        rw [fk] at he;simp only at he;cases aw:a_ P t with
        | none=>rw [aw] at he;simp [gu.none] at he
        | some aS=>
          rw [aw] at he;rw [fk] at aC;simp only [Lj,aw] at aC;simp only [aC,cond_false] at he
          split at he
          . exact (a8.iY he).2
          . cases he
  . exact (a8.iY he).2
  . exact (a8.iY he).2
 case move=>simp only [a8.val.injEq] at he;exact he.2.symm
 case assign=>simp only [a8.val.injEq] at he;exact he.2.symm
 case pick c a b=>
  split at he
  . simp only [a8.val.injEq] at he;exact he.2.symm
  . cases he
 case makeFunc fn first e4=>
  cases fn<;>simp only at he<;>try (simp [dt.none] at he;done)
  rename_i f;cases aA:(first.isEmpty&&!Nat.beq f dC)<;>rw [aA] at he
  . simp only [cond_false] at he;cases jX:(e4.isEmpty&&!Nat.beq f dC)<;>rw [jX] at he
    . simp [dt.none] at he
    . simp only [cond_true,a8.val.injEq] at he;exact he.2.symm
  . simp only [cond_true,a8.val.injEq] at he;exact he.2.symm
 case typeAssert x u7 t ok=>
  cases aw:a_ P t with
  | none=>rw [aw] at he;simp [dt.none] at he
  | some aS=>
    rw [aw] at he;simp only at he;cases ae:Nat.beq (fl aS.bg) 5<;>rw [ae] at he
    . exact (a8.iY he).2
    . simp [dt.none] at he
 case makeInterface t x=>
  cases aw:a_ P t with
  | none=>rw [aw] at he;simp [dt.none] at he
  | some aS=>
    rw [aw] at he;simp only at he;cases ae:Nat.beq (fl aS.bg) 5<;>rw [ae] at he
    . simp only [cond_false,a8.val.injEq] at he;exact he.2.symm
    . simp [dt.none] at he
 case extract x i=>
  split at he
  . exact (a8.iY he).2
  . cases he
 all_goals exact (a8.iY he).2
theorem a8.xb {h ab:ai} {x:Option V} {v:V} (he:a8.of h x=.val v ab) (H:ai):a8.of H x=.val v H:=by rw [(a8.iY he).1];rfl
theorem Rc {o:Oper} {call:dU} {r:bI} {h ab:ai} {v:V} (aC:fe P o.op=false) (ay:looks o.op=false) (he:(fD P o).run call r h=.val v ab) (H:ai):(fD P o).run call r H=.val v H:=by
 obtain ⟨dst,op,type,pos,after,guard⟩:=o;cases op<;>simp only [fe] at aC<;>try (cases aC;done)
 all_goals simp only [looks] at ay<;>try (cases ay;done)
 all_goals simp only [fD] at he ⊢
 case call c=>
  obtain ⟨callee,args,types⟩:=c;cases callee<;>simp only at aC<;>try (cases aC;done)
  rename_i b;simp only [sf] at he ⊢;cases b<;>simp only at aC<;>try (cases aC;done)
  . simp only [qR] at he ⊢;cases fk:types.toList with
    | nil=>rw [fk] at he;simp [gu.none] at he
    | cons t cQ=>
      cases cQ with
      | cons _ _=>rw [fk] at he;simp [gu.none] at he
      | nil=>
        rw [fk] at he;simp only at he ⊢;cases aw:a_ P t with
        | none=>rw [aw] at he;simp [gu.none] at he
        | some aS=>
          rw [aw] at he;rw [fk] at aC;simp only [Lj,aw] at aC;simp only [aC,cond_false] at he ⊢
          split at he
          . exact a8.xb he H
          . cases he
  . exact a8.xb he H
  . exact a8.xb he H
 case move=>simp only [a8.val.injEq] at he;rw [he.1]
 case assign=>simp only [a8.val.injEq] at he;rw [he.1]
 case pick c a b=>
  split at he
  . simp only [a8.val.injEq] at he;rw [he.1]
  . cases he
 case makeFunc fn first e4=>
  cases fn<;>simp only at he ⊢<;>try (simp [dt.none] at he;done)
  rename_i f;cases aA:(first.isEmpty&&!Nat.beq f dC)<;>rw [aA] at he
  . simp only [cond_false] at he ⊢;cases jX:(e4.isEmpty&&!Nat.beq f dC)<;>rw [jX] at he
    . simp [dt.none] at he
    . simp only [cond_true,a8.val.injEq] at he ⊢;exact ⟨he.1,trivial⟩
  . simp only [cond_true,a8.val.injEq] at he ⊢;exact ⟨he.1,trivial⟩
 case typeAssert x u7 t ok=>
  cases aw:a_ P t with
  | none=>rw [aw] at he;simp [dt.none] at he
  | some aS=>
    rw [aw] at he;simp only at he ⊢;cases ae:Nat.beq (fl aS.bg) 5<;>rw [ae] at he
    . exact a8.xb he H
    . simp [dt.none] at he
 case makeInterface t x=>
  cases aw:a_ P t with
  | none=>rw [aw] at he;simp [dt.none] at he
  | some aS=>
    rw [aw] at he;simp only at he ⊢;cases ae:Nat.beq (fl aS.bg) 5<;>rw [ae] at he
    . simp only [cond_false,a8.val.injEq] at he ⊢;exact ⟨he.1,trivial⟩
    . simp [dt.none] at he
 case extract x i=>
  split at he
  . exact a8.xb he H
  . cases he
 all_goals exact a8.xb he H
end
section
variable {P:Program}
def HY (P:Program) (E:Env) (m:Sem Value) (v:V) (h ab:ai):Prop:=
 ∃k,ab=h.new k/\True/\∀w,∃X dr,m.run P w=.ok X {w with heap:=w.heap.push dr}/\
  ∀ax,E.le ax->ax (aj h.next)=some ⟨w.heap.size,0,0⟩->Rel ax v X/\∀B,B<=w.heap.size->h0 B ax {w with heap:=w.heap.push dr} (aj h.next) k
theorem Gh {E:Env} {h ab:ai} {ah:List V} {l:List Value} (ay:bk E ah l) (he:gM h ah=some ab) (t:TypeId):
 ∃k,ab=h.new k/\True/\∀w,(newRow t l.toArray).run P w=.ok ⟨w.heap.size,0,none⟩ {w with heap:=w.heap.push (.cells l.toArray t)}/\
  ∀ax,E.le ax->ax (aj h.next)=some ⟨w.heap.size,0,0⟩->∀B,B<=w.heap.size->h0 B ax {w with heap:=w.heap.push (.cells l.toArray t)} (aj h.next) k:=by
 unfold gM at he;obtain ⟨aD,he⟩:=eI he;rw [Nat.ble_eq] at aD;cases he;refine ⟨_,rfl,trivial,fun w=>⟨by simp [newRow],fun ax hle dZ B c_=>?_⟩⟩;have:=ER (bk.mono hle _ _ ay) aD #[]
 rw [Array.append_empty] at this;exact ⟨aD,_,_,t,(0,0),dZ,c_,by simp,.inr (Nat.le_refl _),fun _=>rfl,fun h=>absurd rfl h,this⟩
theorem aaq {E:Env} {h ab:ai} {t:TypeId} {n:Nat} {bm:List (Nat × V)} {cy:List (Nat × Value)} {v:V} (ag:r7 E bm cy) (he:(vH P t n).run bm h=.val v ab):
 HY P E (Instr.buildSlice t n cy.toArray) v h ab:=by
 unfold vH at he;cases aw:a_ P t with
 | none=>rw [aw] at he;cases he
 | some aS=>
   rw [aw] at he;simp only at he;have hu:=fR aw;cases bV:aS.bg with
   | slice e=>
     rw [bV] at he hu;simp only at he;cases cx:a_ P e with
     | none=>rw [cx] at he;cases he
     | some bb=>
       rw [cx] at he;simp only at he;cases bn:bb.zero with
       | none=>rw [bn] at he;cases he
       | some z=>
         rw [bn] at he;simp only at he;cases aD:(Nat.ble (n * bb.size) 1000000&&Nat.beq z.cells.length bb.size) with
         | false=>rw [aD] at he;cases he
         | true=>
           rw [aD] at he;simp only [cond_true] at he;simp only [Bool.and_eq_true,Nat.ble_eq,Nat.beq_eq] at aD;cases aA:ng (fun i=>some (i * bb.size,bb.size)) (hM z.cells n) bm with
           | none=>rw [aA] at he;cases he
           | some cs=>
             rw [aA] at he;simp only at he;cases aV:gM h cs with
             | none=>rw [aV] at he;cases he
             | some aa=>
               rw [aV] at he;simp only [a8.val.injEq] at he;obtain ⟨rfl,rfl⟩:=he;obtain ⟨x,ak,ou,pg⟩:=tp (P:=P) (E:=E) cx bn ⟨#[],fun _ _=>0,0,default,#[]⟩;have sQ:x.cells.size=bb.size:=by rw [pg,aD.2]
               have sK:=zO ou n;rw [sQ] at sK;obtain ⟨b,kB,p6⟩:=Bf (a:=(Array.range (n * bb.size)).map (x.cells[· % x.cells.size]!)) ag (by rw [sQ];exact sK) aA;obtain ⟨k,g1,g2,g3⟩:=Gh (P:=P) p6 aV e;refine ⟨k,g1,g2,fun w=>⟨.slice (some ⟨w.heap.size,0,none⟩) n n,.cells b e,?_,fun ax hle dZ=>⟨?_,?_⟩⟩⟩
               . have wA:¬16777216<n * bb.size:=by omega
                 have kY:(newRow e b).run P w=.ok ⟨w.heap.size,0,none⟩ {w with heap:=w.heap.push (.cells b e)}:=by simpa using (g3 w).1
                 by_cases aX:n * bb.size=0
                 . have JY:Instr.fill (fun i=>some (i * bb.size,bb.size)) ((Array.range (n * bb.size)).map ((#[]:Array Value)[· % 0]!)) cy=some b:=by
                    have aP:(Array.range (n * bb.size)).map ((#[]:Array Value)[· % 0]!)=(Array.range (n * bb.size)).map (x.cells[· % x.cells.size]!):=by rw [aX];simp
                    rw [aP];exact kB
                   have JZ:Instr.fill (fun i=>some (i * bb.size,bb.size)) ((Array.range (n * bb.size)).map (fun x=>(#[]:Array Value)[x % (#[]:Array Value).size]!)) cy=some b:=JY;simp only [Instr.buildSlice,Sem.run_bind,hu,Result.andThen_ok,kq cx,Sem.run_ite];rw [if_neg wA];simp only [Sem.run_pure,Result.andThen_ok,if_pos aX];rw [JZ];simp only [Sem.run_bind,kY,Result.andThen_ok,Sem.run_pure]
                 . simp only [Instr.buildSlice,Sem.run_bind,hu,Result.andThen_ok,kq cx,Sem.run_ite];rw [if_neg wA];simp only [Sem.run_pure,Result.andThen_ok,if_neg aX,ak];rw [kB];simp only [Sem.run_bind,kY,Result.andThen_ok,Sem.run_pure]
               . simp only [Rel];exact ⟨_,dZ,Nat.le_refl _,by simp⟩
               . simpa using (g3 w).2 ax hle dZ
   | _=>rw [bV] at he;cases he
theorem akp {E:Env} {h ab:ai} {t:TypeId} {x y v:V} {X Y:Value} (ak:Rel E x X) (aZ:Rel E y Y) (he:(w5 P t).run x y h=.val v ab):
 HY P E (Instr.makeSlice t X Y) v h ab:=by
 unfold w5 at he;cases aw:a_ P t with
 | none=>rw [aw] at he;cases he
 | some aS=>
   rw [aw] at he;simp only at he;have hu:=fR aw;cases bV:aS.bg with
   | slice e=>
     rw [bV] at he hu;simp only at he;cases cx:a_ P e with
     | none=>rw [cx] at he;cases he
     | some bb=>
       rw [cx] at he;simp only at he;cases bn:bb.zero with
       | none=>rw [bn] at he;cases he
       | some z=>
         rw [bn] at he;simp only at he;cases wb:Nat.ble bb.bytes 4096 with
         | false=>rw [wb] at he;cases he
         | true=>
           rw [wb] at he;simp only [cond_true,s0] at he;obtain ⟨bA,l,rfl,yK⟩:=s7 he;obtain ⟨bx,c,rfl,et⟩:=s7 yK;have:=ak.jf;subst this;have:=aZ.jf;subst this;obtain ⟨aD,p7⟩:=jR et;simp only [Bool.and_eq_true,oC,decide_eq_true_eq,Nat.beq_eq] at aD;obtain ⟨⟨aX,aa,ad⟩,aJ⟩:=aD;rw [Nat.ble_eq] at wb;cases aV:gM h (hM z.cells c.toNat) with
           | none=>rw [aV] at p7;cases p7
           | some bl=>
             rw [aV] at p7;simp only [a8.val.injEq] at p7;obtain ⟨rfl,rfl⟩:=p7;obtain ⟨lI,wL,ou,pg⟩:=tp (P:=P) (E:=E) cx bn ⟨#[],fun _ _=>0,0,default,#[]⟩;have sQ:lI.cells.size=bb.size:=by rw [pg,aJ]
             have sK:=zO ou c.toNat;obtain ⟨k,g1,g2,g3⟩:=Gh (P:=P) sK aV e;have pf:IntKind.i64.wrap l=l:=by simp only [IntKind.wrap,IntKind.bits,IntKind.signed];simp;omega
             have K5:IntKind.i64.wrap c=c:=by simp only [IntKind.wrap,IntKind.bits,IntKind.signed];simp;omega
             have hmul:(bb.bytes:Int) * c<=4096 * 1000000:=by
              have ae:(bb.bytes:Int)<=4096:=by omega
              have:=Int.mul_le_mul_of_nonneg_right (c:=c) ae (by omega);omega
             refine ⟨k,g1,g2,fun w=>?_⟩;obtain ⟨i,an,q_⟩:=GX (P:=P) cx w;refine ⟨.slice (some ⟨w.heap.size,0,none⟩) l.toNat c.toNat,_,?_,fun ax hle dZ=>⟨?_,(g3 w).2 ax hle dZ⟩⟩
             . have kY:=(g3 w).1;simp only [Array.toArray_toList] at kY;have bP:¬c<0:=by omega
               have bY:¬((bb.bytes:Int) * c>281474976710656):=by omega
               have c3:¬l<0:=by omega
               have eV:¬l>c:=by omega
               have same:(if c.toNat * bb.size=0 then (Array.range (c.toNat * bb.size)).map (fun x=>(#[]:Array Value)[x % (#[]:Array Value).size]!) else (Array.range (c.toNat * bb.size)).map (fun x=>lI.cells[x % lI.cells.size]!))=
                (Array.range (c.toNat * lI.cells.size)).map (lI.cells[· % lI.cells.size]!):=by
                rw [sQ];by_cases aC:c.toNat * bb.size=0
                . rw [aC];simp
                . rw [if_neg aC]
               simp only [Instr.makeSlice,Sem.run_bind,hu,Result.andThen_ok,asInt,asIntOf,Sem.run_pure,an,pf,K5,q_];rw [if_neg (by simp only [Bool.or_eq_true,decide_eq_true_eq,not_or];exact ⟨⟨⟨bP,bY⟩,c3⟩,eV⟩)];simp only [Result.andThen_ok,Sem.run_bind,run_askRoom,kq cx];by_cases aC:c.toNat * bb.size=0
               . rw [if_pos aC] at same;rw [if_pos aC];simp only [Sem.run_pure,Result.andThen_ok,Sem.run_bind,same,kY,Array.toArray_toList]
               . rw [if_neg aC] at same;rw [if_neg aC];simp only [Sem.run_pure,Result.andThen_ok,Sem.run_bind,wL,same,kY,Array.toArray_toList]
             . simp only [Rel];exact ⟨_,dZ,by omega,by simp⟩
   | _=>rw [bV] at he;cases he
theorem ack {E:Env} {h ab:ai} {call:dU} {o:Oper} {au:Nat} {r:bI} {a:Act} {v:V} (a1:ha o=true) (he:(fD P o).run call r h=.val v ab) (k:RegRel0 E au r a):
 ∃m:Sem Value,execOp a.eval o=(do pure (.value (<-m)))/\HY P E m v h ab:=by
 obtain ⟨dst,op,type,pos,after,guard⟩:=o;cases op<;>simp only [ha] at a1<;>try (cases a1;done)
 all_goals simp only [fD] at he
 case alloc t=>
  refine ⟨Instr.alloc t true (.tuple #[]),rfl,?_⟩;cases aw:a_ P t with
  | none=>rw [aw] at he;simp [dt.none] at he
  | some aS=>
    rw [aw] at he;simp only at he;cases bn:aS.zero with
    | none=>rw [bn] at he;simp [dt.none] at he
    | some z=>
      rw [bn] at he;simp only at he;cases aV:gM h z.cells with
      | none=>rw [aV] at he;cases he
      | some aa=>
        rw [aV] at he;simp only [hr,a8.val.injEq] at he;obtain ⟨rfl,rfl⟩:=he;obtain ⟨x,ak,ou,_⟩:=tp (P:=P) (E:=E) aw bn ⟨#[],fun _ _=>0,0,default,#[]⟩;obtain ⟨di,g1,g2,g3⟩:=Gh (P:=P) ou aV t;refine ⟨di,g1,g2,fun w=>⟨.pointer (some ⟨w.heap.size,0,none⟩),.cells x.cells t,?_,fun ax hle dZ=>⟨?_,?_⟩⟩⟩
        . have:=(g3 w).1;simp only [Array.toArray_toList] at this;simp only [Instr.alloc,Sem.run_bind,ak,Result.andThen_ok,newVar,this,Sem.run_pure]
        . simp only [Rel];exact ⟨_,dZ,by simp⟩
        . simpa using (g3 w).2 ax hle dZ
 case box t x=>
  refine ⟨Instr.box t (a.eval x),rfl,?_⟩;obtain ⟨aB,he⟩:=jR he;cases aV:gM h ((bT x).run r).cells with
  | none=>rw [aV] at he;cases he
  | some aa=>
    rw [aV] at he;simp only [hr,a8.val.injEq] at he;obtain ⟨rfl,rfl⟩:=he;have ay:=(dM k x).cells (fun e=>by rw [e] at aB;cases aB);obtain ⟨di,g1,g2,g3⟩:=Gh (P:=P) ay aV t;refine ⟨di,g1,g2,fun w=>⟨.pointer (some ⟨w.heap.size,0,none⟩),.cells (a.eval x).cells t,?_,fun ax hle dZ=>⟨?_,?_⟩⟩⟩
    . have:=(g3 w).1;simp only [Array.toArray_toList] at this;simp only [Instr.box,Sem.run_bind,newVar,this,Result.andThen_ok,Sem.run_pure]
    . simp only [Rel];exact ⟨_,dZ,by simp⟩
    . simpa using (g3 w).2 ax hle dZ
 case buildSlice t n bm=>
  refine ⟨Instr.buildSlice t n (bm.map fun (i,x)=>(i,a.eval x)),rfl,?_⟩;rw [Md];exact aaq (GF k bm.toList) he
 case makeSlice t l c=>exact ⟨Instr.makeSlice t (a.eval l) (a.eval c),rfl,akp (dM k l) (dM k c) he⟩
 case makeMap t x=>
  cases x with
  | some _=>cases a1
  | none=>
    refine ⟨Instr.makeMap t none,rfl,?_⟩;simp only [rH,zs] at he;cases aw:a_ P t with
    | none=>rw [aw] at he;cases he
    | some aS=>
      rw [aw] at he;simp only at he;cases ae:Nat.beq (fl aS.bg) 3 with
      | false=>rw [ae] at he;cases he
      | true=>
        rw [ae] at he;simp only [cond_true,sZ,zt] at he;simp only [a8.val.injEq] at he;obtain ⟨rfl,rfl⟩:=he;refine ⟨_,rfl,trivial,fun w=>⟨.map (some w.heap.size),.map #[] 0,?_,fun ax hle dZ=>⟨?_,fun B c_=>?_⟩⟩⟩
        . simp only [Instr.makeMap,Sem.run_bind,run_newObj,Result.andThen_ok,Sem.run_pure]
        . simp only [Rel];exact ⟨_,dZ,rfl⟩
        . exact ⟨_,#[],dZ,c_,by simp,rfl⟩
def Fr.hold (F:Fr) (b:aQ) (k:cf):Fr:=⟨F.w,fun bL=>if bL=b then some k else F.ew bL⟩
def Fr.free (F:Fr) (b:aQ):Fr:=⟨F.w,fun bL=>if bL=b then none else F.ew bL⟩
theorem bf.hold {F:Fr} {E:Env} {h:ai} {w:World} (s:bf F E h w) (k:cf):bf (F.hold (aj h.next) k) E (h.new k) w:=by
 have dI:=s.fresh h.next (Nat.le_refl _)
 refine ⟨fun b ae=>?_,fun b bj aH=>?_,fun b bL p p' aa ad aP a' iO=>?_,fun i an=>s.fresh i (Nat.le_of_succ_le an),s.frame,s.laid,fun b p n cs st aa aP=>s.base b p n cs st (by
  have cS:aj h.next≠b:=fun e=>by rw [<-e,dI] at aP;cases aP
  rwa [ai.iM,if_neg cS] at aa) aP⟩
 . simp only [Fr.hold] at ae;by_cases aC:b=aj h.next
   . rw [if_pos aC] at ae;cases ae
   . rw [if_neg aC] at ae;rw [ai.iM,if_neg (fun e=>aC e.symm)];exact s.aM b ae
 . simp only [Fr.hold] at aH;by_cases aC:b=aj h.next
   . rw [if_pos aC] at aH;cases aH;exact ⟨by rw [ai.iM,if_pos aC.symm],by rw [aC];exact dI,h.next,Nat.lt_succ_self _,aC⟩
   . rw [if_neg aC] at aH;obtain ⟨ar,av,i,aK,bU⟩:=s.qw b bj aH;exact ⟨by rw [ai.iM,if_neg (fun e=>aC e.symm)];exact ar,av,i,Nat.lt_succ_of_lt aK,bU⟩
 . have cS:aj h.next≠b:=fun e=>by rw [<-e,dI] at aP;cases aP
   have fP:aj h.next≠bL:=fun e=>by rw [<-e,dI] at a';cases a'
   rw [ai.iM,if_neg cS] at aa;rw [ai.iM,if_neg fP] at ad;exact s.inj b bL p p' aa ad aP a' iO
theorem bf.link {F:Fr} {E:Env} {h:ai} {w:World} (s:bf F E h w) {b:aQ} {k:cf} (ag:F.ew b=some k) {o:Obj}
 (kH:h0 F.w.heap.size (E.put b ⟨w.heap.size,0,0⟩) {w with heap:=w.heap.push o} b k):
 E.le (E.put b ⟨w.heap.size,0,0⟩)/\bf (F.free b) (E.put b ⟨w.heap.size,0,0⟩) h {w with heap:=w.heap.push o}:=by
 obtain ⟨aH,dI,i0,wu,nm⟩:=s.qw b k ag;have hle:E.le (E.put b ⟨w.heap.size,0,0⟩):=Env.l' dI;have dZ:E.put b ⟨w.heap.size,0,0⟩ b=some ⟨w.heap.size,0,0⟩:=by unfold Env.put;rw [if_pos rfl]
 have hold:∀bL,bL≠b->E.put b ⟨w.heap.size,0,0⟩ bL=E bL:=by intro bL ae;unfold Env.put;rw [if_neg ae]
 have kC:∀bL q,E bL=some q->(h.get bL)≠.dead->q.aM<w.heap.size:=by
  intro bL q aC bc;have ae:=s.at aC;cases aB:h.get bL with
  | dead=>exact absurd aB bc
  | view n cs=>rw [aB] at ae;obtain ⟨_,ec,c,el,b4,e,_,bl,_⟩:=ae;rw [e] at aC;cases aC;exact (Array.getElem?_eq_some_iff.1 bl).1
  | cells n cs cE st=>rw [aB] at ae;obtain ⟨_,ec,c,el,b4,e,_,bl,_⟩:=ae;rw [e] at aC;cases aC;exact (Array.getElem?_eq_some_iff.1 bl).1
  | iter st pos=>rw [aB] at ae;obtain ⟨ec,e,_,_,bl⟩:=ae;rw [e] at aC;cases aC;exact (Array.getElem?_eq_some_iff.1 bl).1
  | mp es clock=>rw [aB] at ae;obtain ⟨ec,a,e,_,bl,_⟩:=ae;rw [e] at aC;cases aC;exact (Array.getElem?_eq_some_iff.1 bl).1
  | dF l=>rw [aB] at ae;obtain ⟨ec,a,e,_,bl,_⟩:=ae;rw [e] at aC;cases aC;exact (Array.getElem?_eq_some_iff.1 bl).1
  | gd=>rw [aB] at ae;obtain ⟨ec,e,_,bl⟩:=ae;rw [e] at aC;cases aC;exact (Array.getElem?_eq_some_iff.1 bl).1
  | j4 es=>rw [aB] at ae;obtain ⟨ec,a,c,l,e,_,bl,_⟩:=ae;rw [e] at aC;cases aC;exact (Array.getElem?_eq_some_iff.1 bl).1
  | j3 src since seen last=>rw [aB] at ae;obtain ⟨ec,m,a,e,_,_,bl,_⟩:=ae;rw [e] at aC;cases aC;exact (Array.getElem?_eq_some_iff.1 bl).1
 refine ⟨hle,fun bL fc=>?_,fun bL bj gZ=>?_,fun cb b9 bZ bX aa ad aP a' iO=>?_,fun i an=>?_,⟨s.frame.os,s.frame.tape,s.frame.output,?_,fun j aU=>?_⟩,s.laid,fun cb bZ n cs st aa aP=>by
  by_cases bP:cb=b
  . subst bP;rw [dZ] at aP;cases aP;rfl
  . rw [hold cb bP] at aP;exact s.base _ _ _ _ _ aa aP⟩
 . by_cases aC:bL=b
   . subst aC;rw [aH];exact kH
   . simp only [Fr.free,if_neg aC] at fc;have aX:=(s.aM bL fc).mono hle;by_cases bc:h.get bL=.dead
     . rw [bc];trivial
     . refine h0.gT aX fun q oq=>?_;rw [hold bL aC] at oq;have:=kC bL q oq bc;simp only [Array.getElem?_push];rw [if_neg (by omega)]
 . simp only [Fr.free] at gZ;by_cases aC:bL=b
   . rw [if_pos aC] at gZ;cases gZ
   . rw [if_neg aC] at gZ;obtain ⟨ar,av,aK⟩:=s.qw bL bj gZ;exact ⟨ar,by rw [hold bL aC];exact av,aK⟩
 . by_cases bP:cb=b<;>by_cases bY:b9=b
   . exact bP.trans bY.symm
   . subst bP;rw [dZ] at aP;cases aP;rw [hold b9 bY] at a';have:=kC b9 bX a' (fun e=>by rw [e] at ad;cases ad);simp only at iO;omega
   . subst bY;rw [dZ] at a';cases a';rw [hold cb bP] at aP;have:=kC cb bZ aP (fun e=>by rw [e] at aa;cases aa);simp only at iO;omega
   . rw [hold cb bP] at aP;rw [hold b9 bY] at a';exact s.inj cb b9 bZ bX aa ad aP a' iO
 . rw [hold _ (fun e=>?_)]
   . exact s.fresh i an
   . rw [nm] at e;have:=fu e;omega
 . have:=s.frame.size;simp only [Array.size_push,Fr.free];omega
 . have aa:=s.frame.size;simp only [Fr.free,Array.getElem?_push];rw [if_neg (by simp only [Fr.free] at aU;omega)];exact s.frame.block j aU
end
section
variable {P:Program}
def ey (es:List e8) (dc:bI) (i:Nat):bI:=
 match es[i]? with
 | some e=>e.r
 | none=>dc
theorem yL (e:e8) (es:List e8) (aA:ai) (i:Nat):cq (e::es) aA (i+1)=cq es aA i:=by simp [cq]
theorem zN (e:e8) (es:List e8) (dc:bI) (i:Nat):ey (e::es) dc (i+1)=ey es dc i:=by simp [ey]
theorem uZ {au:Nat} {all:Array Oper} {call:dU}:∀{l:List Oper} {r dc:bI} {h aA:ai} {es:List e8},(fW P au all l).run call r h=.ok es dc aA->
 es.length=l.length/\cq es aA 0=h/\ey es dc 0=r/\∀j o,l[j]? =some o->∃e,es[j]? =some e/\(cK P au all o).run call e.r e.h=.val e.v (cq es aA (j+1))/\ey es dc (j+1)=(ga o.dst).run e.r e.v
 | [],r,dc,h,aA,es,he=>by simp only [fW,qH.ok.injEq] at he;obtain ⟨rfl,rfl,rfl⟩:=he;exact ⟨rfl,rfl,rfl,fun j o a6=>by simp at a6⟩
 | o::os,r,dc,h,aA,es,he=>by
   simp only [fW,C4] at he;cases aa:(cK P au all o).run call r h with
   | fail=>rw [aa] at he;cases he
   | cT _ _=>rw [aa] at he;simp only at he;cases hm:ma o.op<;>rw [hm] at he<;>cases he
   | val v bl=>
     rw [aa] at he;simp only at he;cases ad:(fW P au all os).run call ((ga o.dst).run r v) bl with
     | fail=>rw [ad] at he;cases he
     | cT _ _ _ _ _=>rw [ad] at he;cases he
     | ok h4 bw aJ=>
       rw [ad] at he;simp only [qH.ok.injEq] at he;obtain ⟨rfl,rfl,rfl⟩:=he;obtain ⟨ar,av,aK,bU⟩:=uZ ad;refine ⟨by simp [ar],by simp [cq],by simp [ey],fun j ck a6=>?_⟩;cases j with
       | zero=>
         simp only [List.getElem?_cons_zero,Option.some.injEq] at a6;subst a6;exact ⟨⟨r,h,v⟩,rfl,by rw [yL,av];exact aa,by rw [zN,aK]⟩
       | succ j=>
         obtain ⟨e,bZ,bX,b_⟩:=bU j ck (by simpa using a6);exact ⟨e,by simpa using bZ,by rw [yL];exact bX,by rw [zN];exact b_⟩
theorem Xa {au:Nat} {all:Array Oper} {call:dU}:∀{l:List Oper} {r dc:bI} {h aA ab:ai} {es:List e8} {v:V},(fW P au all l).run call r h=.cT es dc aA v ab->
 cq es aA 0=h/\ey es dc 0=r/\(∀j o,j<es.length->l[j]? =some o->∃e,es[j]? =some e/\(cK P au all o).run call e.r e.h=.val e.v (cq es aA (j+1))/\ey es dc (j+1)=(ga o.dst).run e.r e.v)/\
  ∃o,l[es.length]? =some o/\ma o.op=true/\(cK P au all o).run call dc aA=.cT v ab
 | [],r,dc,h,aA,ab,es,v,he=>by simp [fW] at he
 | o::os,r,dc,h,aA,ab,es,v,he=>by
   simp only [fW,C4] at he;cases aa:(cK P au all o).run call r h with
   | fail=>rw [aa] at he;cases he
   | cT x ak=>
     rw [aa] at he;simp only at he;cases hm:ma o.op with
     | false=>rw [hm] at he;cases he
     | true=>
       rw [hm] at he;simp only [cond_true,qH.cT.injEq] at he;obtain ⟨rfl,rfl,rfl,rfl,rfl⟩:=he;exact ⟨rfl,rfl,fun j ck aU=>by simp at aU,o,rfl,hm,aa⟩
   | val x bl=>
     rw [aa] at he;simp only at he;cases ad:(fW P au all os).run call ((ga o.dst).run r x) bl with
     | fail=>rw [ad] at he;cases he
     | ok _ _ _=>rw [ad] at he;cases he
     | cT h4 bw aJ v1 bE=>
       rw [ad] at he;simp only [qH.cT.injEq] at he;obtain ⟨rfl,rfl,rfl,rfl,rfl⟩:=he;obtain ⟨av,aK,bU,c7,dV,eQ,hg⟩:=Xa ad;refine ⟨by simp [cq],by simp [ey],fun j ck aU a6=>?_,c7,by simpa using dV,eQ,hg⟩;cases j with
       | zero=>
         simp only [List.getElem?_cons_zero,Option.some.injEq] at a6;subst a6;exact ⟨⟨r,h,x⟩,rfl,by rw [yL,av];exact aa,by rw [zN,aK]⟩
       | succ j=>
         obtain ⟨e,bZ,bX,b_⟩:=bU j ck (by simpa using aU) (by simpa using a6);exact ⟨e,by simpa using bZ,by rw [yL];exact bX,by rw [zN];exact b_⟩
theorem Sg {au:Nat} {d:Option Nat} (bc:fa au d=true) {r:bI} {v:V} {t:Nat} (aw:t<=top):T.get .bad (aj t) ((ga d).run r v)=if d=some t then v else T.get .bad (aj t) r:=by
 cases d with
 | none=>simp [ga]
 | some d=>
   simp only [fa,Bool.and_eq_true,Nat.blt_eq,Nat.ble_eq] at bc;simp only [ga,T.iy,Option.some.injEq];by_cases h:d=t
   . subst h;simp
   . rw [if_neg (fun e=>h (fu e)),if_neg h]
theorem kT {au:Nat} {all:Array Oper} {o:Oper} {call:dU} {r:bI} {h ab:ai} {v:V} (he:(cK P au all o).run call r h=.val v ab):fa au o.dst=true/\j_ (b7 all o)=true:=by
 unfold cK at he;cases aD:(fa au o.dst&&j_ (b7 all o)) with
 | false=>rw [aD] at he;simp [dt.none] at he
 | true=>simpa using aD
theorem Nq {r:bI} {rs:List Nat} (aR:j_ rs=true) {t:Nat} (aw:t<=top):T.get .bad (aj t) (dA r rs)=if t ∈ rs then T.get .bad (aj t) r else .bad:=by
 induction rs with
 | nil=>simp [dA]
 | cons u rs br=>
   simp only [j_,List.all_cons,Bool.and_eq_true,Nat.ble_eq] at aR;simp only [dA,T.iy,List.mem_cons];by_cases h:u=t
   . subst h;simp
   . rw [if_neg (fun e=>h (fu e)),br aR.2];have ab:¬t=u:=fun e=>h e.symm;simp [ab]
theorem Rr {au:Nat} {all:Array Oper} {o:Oper} {call:dU} {r:bI} {h ab:ai} {v:V} (he:(cK P au all o).run call r h=.cT v ab):fa au o.dst=true/\j_ (b7 all o)=true:=by
 unfold cK at he;cases aD:(fa au o.dst&&j_ (b7 all o)) with
 | false=>rw [aD] at he;simp [dt.none] at he
 | true=>simpa using aD
def H3 (az:Fr) (E:Env) (o:Oper) (a:Act) (K:Act->World->Prop) (Q:Exit->Act->World->Prop):a8->Prop
 | .val v ab=>∀ax x ao,E.le ax->Rel ax v x->bf az ax ab ao->K (a.put o.dst x) ao
 | .cT v ab=>ma o.op=true/\∀ax x ao,E.le ax->Rel ax v x->bf az ax ab ao->Q (.panic (qu x)) a ao
 | .fail=>False
theorem Rs {rd:Option Nat} {az:Fr} {E:Env} {h:ai} {w:World} {call:dU} (bJ:eT P) (c1:hi P call) (dN:hx P call) {all:Array Oper} {i:Nat} {o:Oper} (an:all[i]? =some o) {au:Nat} {r:bI} {a:Act}
 (gI:fa au o.dst=true/\j_ (b7 all o)=true) (qe:a.tmps.size=au) (k1:∀t ∈ b7 all o,Rel E (T.get .bad (aj t) r) (a.tmps.getD t undef)) (s:bf az E h w)
 {K:Act->World->Prop} {Q:Exit->Act->World->Prop} (ag:H3 az E o a K Q ((cK P au all o).run call r h)):wpOpIn (cA rd) 0 P all Q i K a w:=by
 obtain ⟨bc,aR⟩:=gI;have k:RegRel0 E au (dA r (b7 all o)) a:=⟨qe,fun t aw=>by
  rw [Nq aR aw];by_cases hm:t ∈ b7 all o
  . rw [if_pos hm];exact k1 t hm
  . rw [if_neg hm];simp [Rel]⟩
 unfold cK at ag;rw [show (fa au o.dst&&j_ (b7 all o))=true from by rw [bc,aR];rfl] at ag;simp only [cond_true] at ag;have wanted:H3 az E o a K Q ((fD P o).run call (dA r (b7 all o)) h)->Region.wanted o (yielded all a.tmps)=true->wpOpIn (cA rd) 0 P all Q i K a w:=by
  intro aa hw;simp only [wpOpIn,an,hw,if_true];cases aF:(fD P o).run call (dA r (b7 all o)) h with
  | fail=>rw [aF] at aa;exact aa.elim
  | val v ab=>rw [aF] at aa;exact Rf bJ c1 dN aF k s aa
  | cT v ab=>rw [aF] at aa;exact Rb bJ c1 aa.1 aF k s aa.2
 have XG:H3 az E o a K Q (.val (.tuple []) h)->Region.wanted o (yielded all a.tmps)=false->wpOpIn (cA rd) 0 P all Q i K a w:=by intro aa hw;simp only [wpOpIn,an,hw,Bool.false_eq_true,if_false];exact ⟨fun _ _=>trivial,aa E undef w (Env.le.refl E) (by simp only [Rel];exact ⟨#[],rfl,rfl⟩) s⟩
 cases aB:o.guard with
 | none=>
   rw [aB] at ag;exact wanted ag (by simp [Region.wanted,aB])
 | some qh=>
   obtain ⟨j,want⟩:=qh;rw [aB] at ag;simp only at ag;cases aU:all[j]? with
   | none=>rw [aU] at ag;exact ag.elim
   | some g=>
     rw [aU] at ag;simp only at ag;cases kZ:g.dst with
     | none=>rw [kZ] at ag;exact ag.elim
     | some d=>
       rw [kZ] at ag;simp only at ag;cases aD:(Nat.blt d au&&Nat.ble d top) with
       | false=>rw [aD] at ag;exact ag.elim
       | true=>
         rw [aD] at ag;simp only [cond_true,jr,o6] at ag;simp only [Bool.and_eq_true,Nat.blt_eq,Nat.ble_eq] at aD;obtain ⟨g1,g2⟩:=JK k aU kZ aD.1 aD.2;cases bh:T.get .bad (aj d) (dA r (b7 all o))<;>rw [bh] at ag<;>simp only at ag<;>try (exact ag.elim)
         . rename_i b;have aZ:=g1 b bh;cases ae:(bif want then b else !b) with
           | true=>
             rw [ae] at ag;simp only [cond_true] at ag;refine wanted ag ?_;simp only [Region.wanted,aB,aZ];cases want<;>cases b<;>simp_all
           | false=>
             rw [ae] at ag;simp only [cond_false] at ag;refine XG ag ?_;simp only [Region.wanted,aB,aZ];cases want<;>cases b<;>simp_all
         . rename_i ah;have aZ:=g2 ah bh;refine XG ag ?_;simp only [Region.wanted,aB,aZ];rfl
theorem qT {rd:Option Nat} {az:Fr} {E:Env} {h ab:ai} {w:World} {call:dU} (bJ:eT P) (c1:hi P call) (dN:hx P call) {all:Array Oper} {i:Nat} {o:Oper} (an:all[i]? =some o) {au:Nat} {r:bI} {a:Act} {v:V}
 (he:(cK P au all o).run call r h=.val v ab) (qe:a.tmps.size=au) (k1:∀t ∈ b7 all o,Rel E (T.get .bad (aj t) r) (a.tmps.getD t undef)) (s:bf az E h w)
 {K:Act->World->Prop} {Q:Exit->Act->World->Prop} (dQ:∀ax x ao,E.le ax->Rel ax v x->bf az ax ab ao->K (a.put o.dst x) ao):wpOpIn (cA rd) 0 P all Q i K a w:=
 Rs bJ c1 dN an (kT he) qe k1 s (by rw [he];exact dQ)
theorem acJ {rd:Option Nat} {az:Fr} {E:Env} {h ab:ai} {w:World} {call:dU} (bJ:eT P) (c1:hi P call) (dN:hx P call) {all:Array Oper} {i:Nat} {o:Oper} (an:all[i]? =some o) {au:Nat} {r:bI} {a:Act} {v:V}
 (he:(cK P au all o).run call r h=.cT v ab) (hm:ma o.op=true) (qe:a.tmps.size=au) (k1:∀t ∈ b7 all o,Rel E (T.get .bad (aj t) r) (a.tmps.getD t undef)) (s:bf az E h w)
 {K:Act->World->Prop} {Q:Exit->Act->World->Prop} (cO:∀ax x ao,E.le ax->Rel ax v x->bf az ax ab ao->Q (.panic (qu x)) a ao):wpOpIn (cA rd) 0 P all Q i K a w:=
 Rs bJ c1 dN an (Rr he) qe k1 s (by rw [he];exact ⟨hm,cO⟩)
theorem vL {au:Nat} {all:Array Oper} {o:Oper} {call:dU} {r:bI} {h ab:ai} {v:V} (aC:fe P o.op=false) (he:(cK P au all o).run call r h=.val v ab):
 ab=h/\(looks o.op=false->∀H,(cK P au all o).run call r H=.val v H):=by
 obtain ⟨bc,aR⟩:=kT he;have c0:(fa au o.dst&&j_ (b7 all o))=true:=by rw [bc,aR];rfl
 have key:cK P au all o=(match o.guard with
  | none=>⟨jr none (fD P o) (b7 all o)⟩
  | some (j,want)=>match all[j]? with
    | some g=>match g.dst with
      | some d=>bif Nat.blt d au&&Nat.ble d top then ⟨jr (some (o6 (aj d),want)) (fD P o) (b7 all o)⟩ else dt.none
      | none=>dt.none
    | none=>dt.none):=by
  unfold cK;rw [c0];rfl
 rw [key] at he ⊢;cases aB:o.guard with
 | none=>
   rw [aB] at he;exact ⟨Re aC he,fun ay H=>Rc aC ay he H⟩
 | some qh=>
   obtain ⟨j,want⟩:=qh;rw [aB] at he;simp only at he ⊢;cases aU:all[j]? with
   | none=>rw [aU] at he;simp [dt.none] at he
   | some g=>
     rw [aU] at he;simp only at he ⊢;cases kZ:g.dst with
     | none=>rw [kZ] at he;simp [dt.none] at he
     | some d=>
       rw [kZ] at he;simp only at he ⊢;cases aD:(Nat.blt d au&&Nat.ble d top) with
       | false=>rw [aD] at he;simp [dt.none] at he
       | true=>
         rw [aD] at he;simp only [cond_true,jr] at he ⊢;cases bh:(o6 (aj d)).run (dA r (b7 all o))<;>rw [bh] at he<;>simp only at he ⊢<;>try (cases he;done)
         . rename_i b;cases ae:(bif want then b else !b)<;>rw [ae] at he<;>simp only [cond_true,cond_false] at he ⊢
           . simp only [a8.val.injEq] at he ⊢;exact ⟨he.2.symm,fun _ H=>⟨he.1,trivial⟩⟩
           . exact ⟨Re aC he,fun ay H=>Rc aC ay he H⟩
         . simp only [a8.val.injEq] at he ⊢;exact ⟨he.2.symm,fun _ H=>⟨he.1,trivial⟩⟩
theorem O8 {op:dt} {call:dU} {es:List e8} {aA:ai} {r:bI} {v:V}:∀{fV:List Nat},D7 op call es aA r v fV=true->∀s ∈ fV,∃ab,op.run call r (cq es aA s)=.val v ab
 | [],_,s,h=>by simp at h
 | hX::fV,he,s,hm=>by
   simp only [D7,Bool.and_eq_true] at he;simp only [List.mem_cons] at hm;rcases hm with rfl | hm
   . have aa:=he.1;cases aF:op.run call r (cq es aA s) with
     | fail=>rw [aF] at aa;cases aa
     | cT _ _=>rw [aF] at aa;cases aa
     | val c9 ab=>
       rw [aF] at aa;rw [Ju aa];exact ⟨ab,rfl⟩
   . exact O8 he.2 s hm
theorem Il {au:Nat} {all:Array Oper} {eb aG eE:List Nat} {call:dU} {es:List e8} {aA:ai}:∀{l:List Oper} {i:Nat},(sa P au all eb aG eE i l).run call es aA=true->
 ∀j o,l[j]? =some o->looks o.op=true->fe P o.op=false->∀e,es[posOf aG (i+j)]? =some e->∀s ∈ eE,s4 P eb all.toList aG (i+j) ((eb[i+j]?).getD 0) s=true->∃ab,(cK P au all o).run call e.r (cq es aA s)=.val e.v ab
 | [],_,_,j,o,a6,_,_=>by simp at a6
 | ck::os,i,he,j,o,a6,ay,aC=>by
   simp only [sa] at he;cases j with
   | zero=>
     simp only [List.getElem?_cons_zero,Option.some.injEq] at a6;subst a6;rw [ay,aC] at he;simp only [Bool.not_false,Bool.and_true,cond_true,Bool.and_eq_true,O9] at he;have aa:=he.1;intro e o9 s aR hm
     . rw [Nat.add_zero] at o9;rw [o9] at aa;exact O8 aa s (List.mem_filter.2 ⟨aR,by simpa using hm⟩)
   | succ j=>
     have rest:(sa P au all eb aG eE (i+1) os).run call es aA=true:=by
      cases aD:(looks ck.op&&!fe P ck.op) with
      | false=>rw [aD] at he;exact he
      | true=>rw [aD] at he;simp only [cond_true,Bool.and_eq_true] at he;exact he.2
     have:=Il rest j o (by simpa using a6) ay aC;rw [show i + (j+1)=i+1+j from by omega];exact this
theorem zp {aG:List Nat}:∀{l:List Oper} {i j:Nat} {o:Oper},l[j]? =some o->er P o=true->posOf aG (i+j) ∈ h7 P aG i l
 | [],_,j,o,h,_=>by simp at h
 | ck::os,i,j,o,h,he=>by
   simp only [h7];cases j with
   | zero=>
     simp only [List.getElem?_cons_zero,Option.some.injEq] at h;subst h;rw [he];simp
   | succ j=>
     have:=zp (aG:=aG) (i:=i+1) (by simpa using h) he;rw [show i + (j+1)=i+1+j from by omega];cases er P ck with
     | true=>simp [this]
     | false=>exact this
theorem F3 {aG:List Nat}:∀{l:List Oper} {i:Nat},i+l.length ∈ h7 P aG i l
 | [],_=>by simp [h7]
 | o::os,i=>by
   have:=F3 (aG:=aG) (l:=os) (i:=i+1);simp only [h7,List.length_cons];rw [show i + (os.length+1)=i+1+os.length from by omega];cases er P o with
   | true=>simp [this]
   | false=>exact this
theorem uB {aG:List Nat}:∀{l:List Oper} {i s:Nat},s ∈ h7 P aG i l->s=i+l.length\/∃j o,l[j]? =some o/\er P o=true/\s=posOf aG (i+j)
 | [],i,s,h=>by simp only [h7,List.mem_singleton] at h;exact .inl (by simpa using h)
 | o::os,i,s,h=>by
   simp only [h7] at h;have rest:s ∈ h7 P aG (i+1) os->s=i + (o::os).length\/∃j ck,(o::os)[j]? =some ck/\er P ck=true/\s=posOf aG (i+j):=by
    intro h;rcases uB h with h | ⟨j,ck,aa,ad,aJ⟩
    . exact .inl (by simp only [List.length_cons];omega)
    . exact .inr ⟨j+1,ck,by simpa using aa,ad,by rw [aJ];congr 1;omega⟩
   cases aD:er P o with
   | true=>
     rw [aD] at h;simp only [cond_true,List.mem_cons] at h;rcases h with h | h
     . exact .inr ⟨0,o,rfl,aD,h⟩
     . exact rest h
   | false=>rw [aD] at h;exact rest h
theorem ace {c:Bool} {f:V->V->ai->a8} {x y v:V} {h ab:ai} (he:(bif c then (⟨f⟩:Ad) else ⟨fun _ _ _=>.fail⟩).run x y h=.val v ab):c=true/\f x y h=.val v ab:=by
 cases c with
 | true=>exact ⟨rfl,he⟩
 | false=>cases he
theorem acm {o:Oper} {call:dU} {r:bI} {h ab:ai} {v:V} (a1:ha o=true) (he:(fD P o).run call r h=.val v ab):∃k,ab=h.new k/\True:=by
 have cells:∀{ah:List V} {aa:ai},gM h ah=some aa->∃k,aa=h.new k/\True:=by intro ah aa he;unfold gM at he;obtain ⟨aD,he⟩:=eI he;cases he;exact ⟨_,rfl,trivial⟩
 obtain ⟨dst,op,type,pos,after,guard⟩:=o;cases op<;>simp only [ha] at a1<;>try (cases a1;done)
 all_goals simp only [fD] at he
 case alloc t=>
  cases aw:a_ P t with
  | none=>rw [aw] at he;simp [dt.none] at he
  | some aS=>
    rw [aw] at he;simp only at he;cases bn:aS.zero with
    | none=>rw [bn] at he;simp [dt.none] at he
    | some z=>
      rw [bn] at he;simp only at he;cases aV:gM h z.cells with
      | none=>rw [aV] at he;cases he
      | some aa=>
        rw [aV] at he;simp only [hr,a8.val.injEq] at he;obtain ⟨_,rfl⟩:=he;exact cells aV
 case box t x=>
  obtain ⟨aB,he⟩:=jR he;cases aV:gM h ((bT x).run r).cells with
  | none=>rw [aV] at he;cases he
  | some aa=>
    rw [aV] at he;simp only [hr,a8.val.injEq] at he;obtain ⟨_,rfl⟩:=he;exact cells aV
 case buildSlice t n bm=>
  unfold vH at he;cases aw:a_ P t with
  | none=>rw [aw] at he;cases he
  | some aS=>
    rw [aw] at he;simp only at he;cases bV:aS.bg<;>rw [bV] at he<;>simp only at he<;>try (cases he;done)
    rename_i e;cases cx:a_ P e with
    | none=>rw [cx] at he;cases he
    | some bb=>
      rw [cx] at he;simp only at he;cases bn:bb.zero with
      | none=>rw [bn] at he;cases he
      | some z=>
        rw [bn] at he;simp only at he;cases aD:(Nat.ble (n * bb.size) 1000000&&Nat.beq z.cells.length bb.size) with
        | false=>rw [aD] at he;cases he
        | true=>
          rw [aD] at he;simp only [cond_true] at he;cases aA:ng (fun i=>some (i * bb.size,bb.size)) (hM z.cells n) ((uK bm.toList).run r) with
          | none=>rw [aA] at he;cases he
          | some cs=>
            rw [aA] at he;simp only at he;cases aV:gM h cs with
            | none=>rw [aV] at he;cases he
            | some aa=>
              rw [aV] at he;simp only [a8.val.injEq] at he;obtain ⟨_,rfl⟩:=he;exact cells aV
 case makeSlice t l c=>
  unfold w5 at he
  split at he
  rotate_left
  . cases he
  split at he
  rotate_left
  . cases he
  split at he
  rotate_left
  . cases he
  split at he
  rotate_left
  . cases he
  obtain ⟨_,he⟩:=ace he;simp only [s0] at he;obtain ⟨_,_,_,he⟩:=s7 he;obtain ⟨_,_,_,he⟩:=s7 he;obtain ⟨_,he⟩:=jR he
  split at he
  . rename_i aV;simp only [a8.val.injEq] at he;obtain ⟨_,rfl⟩:=he;exact cells aV
  . cases he
 case makeMap t x=>
  cases x with
  | some _=>cases a1
  | none=>
    simp only [rH,zs] at he;cases aw:a_ P t with
    | none=>rw [aw] at he;cases he
    | some aS=>
      rw [aw] at he;simp only at he;cases ae:Nat.beq (fl aS.bg) 3 with
      | false=>rw [ae] at he;cases he
      | true=>
        rw [ae] at he;simp only [cond_true,sZ,zt] at he;simp only [a8.val.injEq] at he;exact ⟨_,he.2.symm,trivial⟩
theorem ag1 {o:Oper} (a1:ha o=true):fe P o.op=true:=by obtain ⟨dst,op,type,pos,after,guard⟩:=o;cases op<;>simp only [ha] at a1<;>first | (cases a1;done) | rfl
theorem Ru {au:Nat} {all:Array Oper} {o:Oper} {call:dU} {r:bI} {h ab:ai} {v:V} (he:(cK P au all o).run call r h=.val v ab):
 ((fD P o).run call (dA r (b7 all o)) h=.val v ab/\∀E a,RegRel0 E au (dA r (b7 all o)) a->Region.wanted o (yielded all a.tmps)=true)\/
 (ab=h/\∀H,(cK P au all o).run call r H=.val v H):=by
 obtain ⟨bc,aR⟩:=kT he;have c0:(fa au o.dst&&j_ (b7 all o))=true:=by rw [bc,aR];rfl
 have key:cK P au all o=(match o.guard with
  | none=>⟨jr none (fD P o) (b7 all o)⟩
  | some (j,want)=>match all[j]? with
    | some g=>match g.dst with
      | some d=>bif Nat.blt d au&&Nat.ble d top then ⟨jr (some (o6 (aj d),want)) (fD P o) (b7 all o)⟩ else dt.none
      | none=>dt.none
    | none=>dt.none):=by
  unfold cK;rw [c0];rfl
 rw [key] at he ⊢;cases aB:o.guard with
 | none=>
   rw [aB] at he;exact .inl ⟨he,fun E a _=>by simp [Region.wanted,aB]⟩
 | some qh=>
   obtain ⟨j,want⟩:=qh;rw [aB] at he;simp only at he ⊢;cases aU:all[j]? with
   | none=>rw [aU] at he;simp [dt.none] at he
   | some g=>
     rw [aU] at he;simp only at he ⊢;cases kZ:g.dst with
     | none=>rw [kZ] at he;simp [dt.none] at he
     | some d=>
       rw [kZ] at he;simp only at he ⊢;cases aD:(Nat.blt d au&&Nat.ble d top) with
       | false=>rw [aD] at he;simp [dt.none] at he
       | true=>
         rw [aD] at he;simp only [cond_true,jr] at he ⊢;have kh:=aD;simp only [Bool.and_eq_true,Nat.blt_eq,Nat.ble_eq] at kh;cases bh:(o6 (aj d)).run (dA r (b7 all o))<;>rw [bh] at he<;>simp only at he ⊢<;>try (cases he;done)
         . rename_i b;cases ae:(bif want then b else !b)<;>rw [ae] at he<;>simp only [cond_true,cond_false] at he ⊢
           . simp only [a8.val.injEq] at he ⊢;exact .inr ⟨he.2.symm,fun H=>⟨he.1,trivial⟩⟩
           . refine .inl ⟨he,fun E a k=>?_⟩;obtain ⟨g1,_⟩:=JK k aU kZ kh.1 kh.2;have aZ:=g1 b bh;simp only [Region.wanted,aB,aZ];cases want<;>cases b<;>simp_all
         . simp only [a8.val.injEq] at he ⊢;exact .inr ⟨he.2.symm,fun H=>⟨he.1,trivial⟩⟩
theorem Rt {au:Nat} {all:Array Oper} {o:Oper} {call:dU} {r:bI} {h ab:ai} {v:V} (a1:ha o=true) (he:(cK P au all o).run call r h=.val v ab):
 (∃k,ab=h.new k/\True)\/(ab=h/\∀H,(cK P au all o).run call r H=.val v H):=by
 rcases Ru he with ⟨aa,_⟩ | aa
 . exact .inl (acm a1 aa)
 . exact .inr aa
theorem acH {rd:Option Nat} {F:Fr} {E:Env} {h ab H:ai} {w:World} {call:dU} {all:Array Oper} {i:Nat} {o:Oper} (an:all[i]? =some o) (a1:ha o=true) {au:Nat} {r:bI} {a:Act} {v:V}
 (he:(cK P au all o).run call r h=.val v ab) (qe:a.tmps.size=au) (k1:∀t ∈ b7 all o,Rel E (T.get .bad (aj t) r) (a.tmps.getD t undef)) (s:bf F E H w)
 (Ky:ab.next≠h.next) (ag:F.ew (aj h.next)=some (ab.get (aj h.next)))
 {K:Act->World->Prop} {Q:Exit->Act->World->Prop} (dQ:∀ax x ao,E.le ax->Rel ax v x->bf (F.free (aj h.next)) ax H ao->K (a.put o.dst x) ao):wpOpIn (cA rd) 0 P all Q i K a w:=by
 obtain ⟨bc,aR⟩:=kT he;have k:RegRel0 E au (dA r (b7 all o)) a:=⟨qe,fun t aw=>by
  rw [Nq aR aw];by_cases hm:t ∈ b7 all o
  . rw [if_pos hm];exact k1 t hm
  . rw [if_neg hm];simp [Rel]⟩
 obtain ⟨eW,hw⟩:(fD P o).run call (dA r (b7 all o)) h=.val v ab/\Region.wanted o (yielded all a.tmps)=true:=by
  rcases Ru he with ⟨aa,ad⟩ | ⟨aa,_⟩
  . exact ⟨aa,ad E a k⟩
  . exact absurd (by rw [aa]) Ky
 obtain ⟨m,ak,di,ar,av,aK⟩:=ack a1 eW k;simp only [wpOpIn,an,hw,if_true];obtain ⟨X,dr,bZ,bX⟩:=aK w;rw [ar,ai.iM,if_pos rfl] at ag;have dZ:E.put (aj h.next) ⟨w.heap.size,0,0⟩ (aj h.next)=some ⟨w.heap.size,0,0⟩:=by unfold Env.put;rw [if_pos rfl]
 have hle:E.le (E.put (aj h.next) ⟨w.heap.size,0,0⟩):=Env.l' (s.qw _ _ ag).2.1;obtain ⟨bw,cw⟩:=bX _ hle dZ;have cr:F.w.heap.size<=w.heap.size:=s.frame.size;obtain ⟨_,iz⟩:=s.link ag (o:=dr) (cw _ cr);refine ⟨fun _ _=>trivial,?_⟩;rw [qz (by intro c h;have:=a1;unfold ha at this;rw [h] at this;cases this),ak,Sem.run_bind,bZ];exact dQ _ X _ hle bw iz
end
end
end Go.Proofs.YthemdhlheglhoaaGreatDoor.a7
