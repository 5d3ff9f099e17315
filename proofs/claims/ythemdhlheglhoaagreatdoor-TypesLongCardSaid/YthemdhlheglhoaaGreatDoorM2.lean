/- The abstract machine and its walks (a verified interpreter of the model's code: plain definitions and lemmas, no condition). Printed by a program from longer texts: names made short. -/
import Derived.Test.YthemdhlheglhoaaGreatDoorM1
import Derived.LaidEqlPtr
import Derived.RangeFuncLeaves
import Derived.RecoverIn
import Derived.OrdersIn
set_option linter.unusedSectionVars false
set_option linter.unusedSimpArgs false
set_option linter.unusedVariables false
set_option maxHeartbeats 64000000
noncomputable section
namespace Go.Proofs.YthemdhlheglhoaaGreatDoor.a8
section
open Go Go.RowKit
variable [Lay]
section
variable {P:Program}
theorem Wh {α β:Type} (g:α->Sem β) (k:α->β) (w:World):∀(l:List α),(∀x ∈ l,(g x).run P w=.ok (k x) w)->(l.mapM g).run P w=.ok (l.map k) w
 | [],_=>by simp
 | x::l,h=>by rw [List.mapM_cons,Sem.run_bind,h x (by simp)];simp only [Result.andThen_ok,Sem.run_bind,Wh g k w l (fun y aZ=>h y (by simp [aZ])),Sem.run_pure,List.map]
theorem Z_ {E:Env} {t:TypeId} {bm:List (Nat × V)} {cv:List (Nat × Value)} {v:V} (af:r4 E bm cv) (he:(Ei P t).run bm=some v) (w:World):
 ∃Z,(Instr.build t cv.toArray).run P w=.ok Z w/\Rel E v Z:=by
 unfold Ei at he;cases av:a' P t with
 | none=>rw [av] at he;cases he
 | some aR=>
   rw [av] at he;simp only at he;cases bn:aR.zero with
   | none=>rw [bn] at he;cases he
   | some z=>
     rw [bn] at he;simp only at he;obtain ⟨x,ak,ou,nu⟩:=zX (P:=P) av bn E w;have hu:=fK av w;have Tl:bk E z.cells x.cells.toList:=by
      rw [nu];have:∀y:Value,bk E (hM y).cells y.cells.toList:=by
       intro y;cases y with
       | agg cs=>simp only [hM,V.cells,Value.cells];exact CH E _
       | pointer a=>cases a<;>simp [hM,jY,V.cells,Value.cells,bk,Rel]
       | slice a n c=>
         have:=uG E (.slice a n c);cases a with
         | some a=>simp [hM,jY,V.cells,Value.cells,bk,Rel]
         | none=>
           simp only [hM,jY] at this ⊢;cases ae:(Nat.beq n 0&&Nat.beq c 0) with
           | false=>simp [V.cells,Value.cells,bk,Rel]
           | true=>rw [ae] at this;simpa [V.cells,Value.cells,bk] using this
       | map r=>cases r<;>simp [hM,jY,V.cells,Value.cells,bk,Rel]
       | tuple cs=>
         have:=uG E (.tuple cs);simp only [hM,V.cells,Value.cells,bk] at this ⊢;exact ⟨_,_,rfl,this,rfl⟩
       | _=>simp [hM,jY,V.cells,Value.cells,bk,Rel]
      exact this x
     cases bU:aR.bh with
     | struct cx=>
       rw [bU] at he hu;simp only at he;cases aH:EN P cx.toList with
       | false=>rw [aH] at he;cases he
       | true=>
         rw [aH] at he;simp only [cond_true] at he;cases az:nb (yv P cx) z.cells bm with
         | none=>rw [az] at he;cases he
         | some cs=>
           rw [az] at he;simp only [Option.some.injEq] at he;subst he
           let k:Field->Nat × Nat:=fun f=>(f.offset,((a' P f.type).map (·.size)).getD 0)
           have np:(cx.mapM fun f=>do pure (f.offset,<-sizeOf f.type):Sem (Array (Nat × Nat))).run P w=.ok (cx.map k) w:=by
            rw [Array.mapM_eq_mapM_toList,Sem.run_map,Wh _ k w cx.toList]
            . simp only [Result.andThen_ok];congr 1;apply Array.ext';simp
            . intro f jO;have:=List.all_eq_true.1 aH f jO;cases y':a' P f.type with
              | none=>rw [y'] at this;simp at this
              | some kK=>simp only [Sem.run_bind,kg y',Result.andThen_ok,Sem.run_pure,k,y'];rfl
           have afv:(fun i=>(cx.map k)[i]?)=yv P cx:=by
            funext i;simp only [yv,Array.getElem?_map];cases ao:cx[i]? with
            | none=>rfl
            | some f=>
              have yV:f ∈ cx.toList:=by have:=List.mem_of_getElem? (l:=cx.toList) (i:=i) (a:=f) (by simpa using ao);exact this
              have:=List.all_eq_true.1 aH f yV;cases y':a' P f.type with
              | none=>rw [y'] at this;simp at this
              | some kK=>simp [k,y']
           obtain ⟨b,ko,p0⟩:=Bj (a:=x.cells) af Tl az;refine ⟨.agg b,?_,by simp only [Rel];exact ⟨b,rfl,p0⟩⟩;simp only [Instr.build,Sem.run_bind,ak,hu,Result.andThen_ok,np];rw [afv];simp only [ko,Sem.run_pure]
     | array n e=>
       rw [bU] at he hu;simp only at he;cases cu:a' P e with
       | none=>rw [cu] at he;cases he
       | some ba=>
         rw [cu] at he;simp only at he;cases az:nb (fun i=>some (i * ba.size,ba.size)) z.cells bm with
         | none=>rw [az] at he;cases he
         | some cs=>
           rw [az] at he;simp only [Option.some.injEq] at he;subst he;obtain ⟨b,ko,p0⟩:=Bj (a:=x.cells) af Tl az;refine ⟨.agg b,?_,by simp only [Rel];exact ⟨b,rfl,p0⟩⟩;simp only [Instr.build,Sem.run_bind,ak,hu,Result.andThen_ok,kg cu,ko,Sem.run_pure]
     | _=>rw [bU] at he;cases he
theorem zT {E:Env} {z:List V} {l:Array Value} (bn:bk E z l.toList):∀n:Nat,bk E (hG z n) ((Array.range (n * l.size)).map (l[· % l.size]!)).toList:=by
 have afN:(List.range l.size).map (l[· % l.size]!)=l.toList:=by
  apply List.ext_getElem?;intro i;simp only [List.getElem?_map];by_cases ao:i<l.size
  . rw [List.getElem?_range ao];simp only [Option.map,Nat.mod_eq_of_lt ao,Array.getElem?_toList];rw [getElem!_pos l i ao,Array.getElem?_eq_getElem ao]
  . rw [List.getElem?_eq_none (by simp;omega),Array.getElem?_toList,Array.getElem?_eq_none (by omega)];rfl
 intro n;simp only [Array.toList_map,Array.toList_range]
 induction n with
 | zero=>simp [hG,bk]
 | succ n bq=>
   have e:(n+1) * l.size=l.size+n * l.size:=by rw [Nat.add_mul];omega
   rw [e,List.range_add,List.map_append,afN,List.map_map];have bf:((l[· % l.size]!) ∘ fun x=>l.size+x)=(l[· % l.size]!):=by funext x;simp
   rw [bf];exact bn.append bq
theorem tm {E:Env} {t:TypeId} {aR:n1} {z:V} (av:a' P t=some aR) (bn:aR.zero=some z) (w:World):∃x:Value,(∀w,(zeroValue t).run P w=.ok x w)/\bk E z.cells x.cells.toList/\x.cells.size=z.cells.length:=by
 obtain ⟨x,ak,_,nu⟩:=zX (P:=P) av bn E w;obtain ⟨i,aa,_,_,_,_,dD⟩:=u0 av;rw [bn] at dD;have wM:∃y,i.zero=some y:=by cases aC:i.zero with | none=>rw [aC] at dD;cases dD | some y=>exact ⟨y,rfl⟩
 obtain ⟨y,aZ⟩:=wM;have cZ:∀w,(zeroValue t).run P w=.ok y w:=fun w=>by simp only [zeroValue,Sem.run_bind,zW aa,Result.andThen_ok,aZ];rfl
 have zg:y=x:=by have:=cZ w;rw [ak] at this;simp at this;exact this.symm
 subst zg;refine ⟨_,cZ,?_,?_⟩
 . rw [nu];have:∀y:Value,bk E (hM y).cells y.cells.toList:=by
    intro y;cases y with
    | agg cs=>simp only [hM,V.cells,Value.cells];exact CH E _
    | pointer a=>cases a<;>simp [hM,jY,V.cells,Value.cells,bk,Rel]
    | slice a n c=>
      have:=uG E (.slice a n c);cases a with
      | some a=>simp [hM,jY,V.cells,Value.cells,bk,Rel]
      | none=>
        simp only [hM,jY] at this ⊢;cases ae:(Nat.beq n 0&&Nat.beq c 0) with
        | false=>simp [V.cells,Value.cells,bk,Rel]
        | true=>rw [ae] at this;simpa [V.cells,Value.cells,bk] using this
    | map r=>cases r<;>simp [hM,jY,V.cells,Value.cells,bk,Rel]
    | tuple cs=>
      have:=uG E (.tuple cs);simp only [hM,V.cells,Value.cells,bk] at this ⊢;exact ⟨_,_,rfl,this,rfl⟩
    | _=>simp [hM,jY,V.cells,Value.cells,bk,Rel]
   exact this _
 . rw [nu,akW]
theorem aab {ay:Fr} {E:Env} {h ab:ah} {w:World} (s:bd ay E h w) {t:TypeId} {n:Nat} {bm:List (Nat × V)} {cv:List (Nat × Value)} {v:V} (af:r4 E bm cv) (he:(vE P t n).run bm h=.val v ab):
 df ay P E w (Instr.buildSlice t n cv.toArray) v ab:=by
 unfold vE at he;cases av:a' P t with
 | none=>rw [av] at he;cases he
 | some aR=>
   rw [av] at he;simp only at he;have hu:=fK av;cases bU:aR.bh with
   | slice e=>
     rw [bU] at he hu;simp only at he;cases cu:a' P e with
     | none=>rw [cu] at he;cases he
     | some ba=>
       rw [cu] at he;simp only at he;cases bn:ba.zero with
       | none=>rw [bn] at he;cases he
       | some z=>
         rw [bn] at he;simp only at he;cases aD:(Nat.ble (n * ba.size) 1000000&&Nat.beq z.cells.length ba.size) with
         | false=>rw [aD] at he;cases he
         | true=>
           rw [aD] at he;simp only [cond_true] at he;simp only [Bool.and_eq_true,Nat.ble_eq,Nat.beq_eq] at aD;cases az:nb (fun i=>some (i * ba.size,ba.size)) (hG z.cells n) bm with
           | none=>rw [az] at he;cases he
           | some cs=>
             rw [az] at he;simp only at he;cases aV:gG h cs with
             | none=>rw [aV] at he;cases he
             | some aa=>
               rw [aV] at he;simp only [a7.val.injEq] at he;obtain ⟨rfl,rfl⟩:=he;obtain ⟨x,ak,ou,pe⟩:=tm (P:=P) (E:=E) cu bn w;have sM:x.cells.size=ba.size:=by rw [pe,aD.2]
               have sG:=zT ou n;rw [sM] at sG;obtain ⟨b,ko,p0⟩:=Bj (a:=(Array.range (n * ba.size)).map (x.cells[· % x.cells.size]!)) af (by rw [sM];exact sG) az;obtain ⟨ax,g1,g2,g3,g4⟩:=Gl (P:=P) s p0 aV e;refine ⟨.slice (some ⟨w.heap.size,0,none⟩) n n,_,ax,?_,g1,?_,g4⟩
               . have wz:¬16777216<n * ba.size:=by omega
                 have kM:(newRow e b).run P w=.ok ⟨w.heap.size,0,none⟩ {w with heap:=w.heap.push (.cells b e)}:=by simpa using g3
                 by_cases aW:n * ba.size=0
                 . have JW:Instr.fill (fun i=>some (i * ba.size,ba.size)) ((Array.range (n * ba.size)).map ((#[]:Array Value)[· % 0]!)) cv=some b:=by
                    have aP:(Array.range (n * ba.size)).map ((#[]:Array Value)[· % 0]!)=(Array.range (n * ba.size)).map (x.cells[· % x.cells.size]!):=by rw [aW];simp
                    rw [aP];exact ko
                   have JX:Instr.fill (fun i=>some (i * ba.size,ba.size)) ((Array.range (n * ba.size)).map (fun x=>(#[]:Array Value)[x % (#[]:Array Value).size]!)) cv=some b:=JW;simp only [Instr.buildSlice,Sem.run_bind,hu,Result.andThen_ok,kg cu,Sem.run_ite];rw [if_neg wz];simp only [Sem.run_pure,Result.andThen_ok,if_pos aW];rw [JX];simp only [Sem.run_bind,kM,Result.andThen_ok,Sem.run_pure]
                 . simp only [Instr.buildSlice,Sem.run_bind,hu,Result.andThen_ok,kg cu,Sem.run_ite];rw [if_neg wz];simp only [Sem.run_pure,Result.andThen_ok,if_neg aW,ak];rw [ko];simp only [Sem.run_bind,kM,Result.andThen_ok,Sem.run_pure]
               . simp only [Rel];exact ⟨_,g2,Nat.le_refl _,by simp⟩
   | _=>rw [bU] at he;cases he
theorem akd {ay:Fr} {E:Env} {h ab:ah} {w:World} (s:bd ay E h w) {t:TypeId} {x y v:V} {X Y:Value} (ak:Rel E x X) (aZ:Rel E y Y) (he:(w2 P t).run x y h=.val v ab):
 df ay P E w (Instr.makeSlice t X Y) v ab:=by
 unfold w2 at he;cases av:a' P t with
 | none=>rw [av] at he;cases he
 | some aR=>
   rw [av] at he;simp only at he;have hu:=fK av;cases bU:aR.bh with
   | slice e=>
     rw [bU] at he hu;simp only at he;cases cu:a' P e with
     | none=>rw [cu] at he;cases he
     | some ba=>
       rw [cu] at he;simp only at he;cases bn:ba.zero with
       | none=>rw [bn] at he;cases he
       | some z=>
         rw [bn] at he;simp only at he;cases wa:Nat.ble ba.bytes 4096 with
         | false=>rw [wa] at he;cases he
         | true=>
           rw [wa] at he;simp only [cond_true,sW] at he;obtain ⟨bz,l,rfl,yK⟩:=s3 he;obtain ⟨bx,c,rfl,eo⟩:=s3 yK;have:=ak.iZ;subst this;have:=aZ.iZ;subst this;obtain ⟨aD,p1⟩:=jJ eo;simp only [Bool.and_eq_true,oA,decide_eq_true_eq,Nat.beq_eq] at aD;obtain ⟨⟨aW,aa,ad⟩,aJ⟩:=aD;rw [Nat.ble_eq] at wa;cases aV:gG h (hG z.cells c.toNat) with
           | none=>rw [aV] at p1;cases p1
           | some bl=>
             rw [aV] at p1;simp only [a7.val.injEq] at p1;obtain ⟨rfl,rfl⟩:=p1;obtain ⟨lx,wK,ou,pe⟩:=tm (P:=P) (E:=E) cu bn w;have sM:lx.cells.size=ba.size:=by rw [pe,aJ]
             have sG:=zT ou c.toNat;obtain ⟨ax,g1,g2,g3,g4⟩:=Gl (P:=P) s sG aV e;obtain ⟨i,ao,q9⟩:=GZ (P:=P) cu w;have pd:IntKind.i64.wrap l=l:=by simp only [IntKind.wrap,IntKind.bits,IntKind.signed];simp;omega
             have K0:IntKind.i64.wrap c=c:=by simp only [IntKind.wrap,IntKind.bits,IntKind.signed];simp;omega
             have hmul:(ba.bytes:Int) * c<=4096 * 1000000:=by
              have ae:(ba.bytes:Int)<=4096:=by omega
              have:=Int.mul_le_mul_of_nonneg_right (c:=c) ae (by omega);omega
             refine ⟨.slice (some ⟨w.heap.size,0,none⟩) l.toNat c.toNat,_,ax,?_,g1,?_,g4⟩
             . have kM:=g3;simp only [Array.toArray_toList] at kM;have bP:¬c<0:=by omega
               have bX:¬((ba.bytes:Int) * c>281474976710656):=by omega
               have c3:¬l<0:=by omega
               have eF:¬l>c:=by omega
               have same:(if c.toNat * ba.size=0 then (Array.range (c.toNat * ba.size)).map (fun x=>(#[]:Array Value)[x % (#[]:Array Value).size]!) else (Array.range (c.toNat * ba.size)).map (fun x=>lx.cells[x % lx.cells.size]!))=
                (Array.range (c.toNat * lx.cells.size)).map (lx.cells[· % lx.cells.size]!):=by
                rw [sM];by_cases aC:c.toNat * ba.size=0
                . rw [aC];simp
                . rw [if_neg aC]
               simp only [Instr.makeSlice,Sem.run_bind,hu,Result.andThen_ok,asInt,asIntOf,Sem.run_pure,ao,pd,K0,q9];rw [if_neg (by simp only [Bool.or_eq_true,decide_eq_true_eq,not_or];exact ⟨⟨⟨bP,bX⟩,c3⟩,eF⟩)];simp only [Result.andThen_ok,Sem.run_bind,run_askRoom,kg cu];by_cases aC:c.toNat * ba.size=0
               . rw [if_pos aC] at same;rw [if_pos aC];simp only [Sem.run_pure,Result.andThen_ok,Sem.run_bind,same,kM,Array.toArray_toList]
               . rw [if_neg aC] at same;rw [if_neg aC];simp only [Sem.run_pure,Result.andThen_ok,Sem.run_bind,wK,same,kM,Array.toArray_toList]
             . simp only [Rel];exact ⟨_,g2,by omega,by simp⟩
   | _=>rw [bU] at he;cases he
end
theorem aQ.k_:∀{p q:aQ},aQ.gY p q=true->p=q
 | .z,.z,_=>rfl
 | .l p,.l q,h=>by rw [aQ.k_ (p:=p) (q:=q) h]
 | .r p,.r q,h=>by rw [aQ.k_ (p:=p) (q:=q) h]
 | .z,.l _,h=>by cases h
 | .z,.r _,h=>by cases h
 | .l _,.z,h=>by cases h
 | .l _,.r _,h=>by cases h
 | .r _,.z,h=>by cases h
 | .r _,.l _,h=>by cases h
theorem aQ.yn:∀p:aQ,aQ.gY p p=true
 | .z=>rfl
 | .l p=>aQ.yn p
 | .r p=>aQ.yn p
section
variable {P:Program}
theorem Vo {ay:Fr} {E:Env} {h:ah} {w:World} (s:bd ay E h w) {b:aQ} {p:jH} (af:E b=some p) (ae:(h.get b).zN=true):(h.get b).own=true/\∃c t,w.heap[p.aN]? =some (.cells c t (0,0)):=by
 have aH:=s.at af;cases aB:h.get b<;>rw [aB] at ae<;>try (cases ae;done)
 rename_i n cs cQ st;rw [aB] at aH;obtain ⟨_,p',c,el,b5,aP,_,q8,_,cO,_⟩:=aH;rw [af] at aP;cases aP;have:st=false:=by simpa [cd.zN] using ae
 rw [cO this] at q8;exact ⟨rfl,c,el,q8⟩
theorem VG {t:TypeId} (h:jr P t=true):∃e j,P.underlying t=some (.pointer e)/\P.info? e=some j/\j.size≠0:=by
 unfold jr at h;cases av:a' P t with
 | none=>rw [av] at h;cases h
 | some aR=>
   rw [av] at h;simp only at h;cases hu:aR.bh<;>rw [hu] at h<;>simp only at h<;>try (cases h;done)
   rename_i e;cases he:a' P e with
   | none=>rw [he] at h;cases h
   | some ba=>
     rw [he] at h;simp only at h;obtain ⟨_,_,ad,_⟩:=u0 av;obtain ⟨j,g1,_,g3,_⟩:=u0 he;refine ⟨e,j,by rw [ad,hu],g1,fun c_=>?_⟩;rw [g3,c_] at h;cases h
theorem alT {t:TypeId} (h:jr P t=true) (w:World):∃e,(underlying t).run P w=.ok (.pointer e) w:=by obtain ⟨e,_,aa,_⟩:=VG h;exact ⟨e,MO aa w⟩
theorem amC {t e:TypeId} {w:World} (hu:(underlying t).run P w=.ok (.pointer e) w) (b:Bool) (v:Value):(Instr.checkKey b 10000 t v).run P w=.ok () w:=by show (Instr.checkKey b (9999+1) t v).run P w=.ok () w;unfold Instr.checkKey;rw [Sem.run_bind,hu];rfl
theorem VE {ay:Fr} {E:Env} {h:ah} {w:World} (s:bd ay E h w) {t:TypeId} (av:jr P t=true) {x y:V} {X Y:Value} {b:Bool} (he:hs h x y=some b) (ak:Rel E x X) (aZ:Rel E y Y):
 (∃a c,X=.pointer (some a)/\Y=.pointer (some c))/\∀d,(Op.equalIn (d+1) t X Y).run P w=.ok b w:=by
 obtain ⟨e,j,af,cu,cq⟩:=VG av;unfold hs at he
 split at he
 case h_2=>cases he
 rename_i cb db
 split at he
 case h_2=>cases he
 rename_i ca dp;simp only [Rel] at ak aZ;obtain ⟨p,iY,rfl⟩:=ak;obtain ⟨q,hZ,rfl⟩:=aZ;refine ⟨⟨_,_,rfl,rfl⟩,fun d=>?_⟩;cases heq:aQ.gY cb ca with
 | true=>
   rw [heq] at he;simp only [cond_true,Option.some.injEq] at he;have:=aQ.k_ heq;subst this;rw [iY] at hZ;cases hZ;have ae:b=decide (db=dp):=by
    rw [<-he];by_cases h:db=dp
    . subst h;simp
    . rw [decide_eq_false h,<-Bool.not_eq_true,Nat.beq_eq];exact h
   have key:(sameAddr ⟨p.aN,p.base+db,none⟩ ⟨p.aN,p.base+dp,none⟩).run P w=.ok b w:=by
    rw [ae];by_cases h:db=dp
    . subst h;simpa using run_sameAddr_same w (⟨p.aN,p.base+db,none⟩:Addr)
    . have ck:((⟨p.aN,p.base+db,none⟩:Addr) == ⟨p.aN,p.base+dp,none⟩)=false:=by
       rw [beq_eq_false_iff_ne];intro e;injection e with _ bf _
       omega
      simp [sameAddr,ck,h]
   simp [Op.equalIn,run_underlying af,sizeOf,typeInfo,cu,cq,key]
 | false=>
   rw [heq] at he;simp only [cond_false] at he;obtain ⟨aD,he⟩:=eG he;simp only [Bool.and_eq_true] at aD;cases he;obtain ⟨L7,bP,t1,q7⟩:=Vo s iY aD.1;obtain ⟨L8,bX,t2,Kh⟩:=Vo s hZ aD.2;have ck:(⟨p.aN,p.base+db,none⟩:Addr)≠⟨q.aN,q.base+dp,none⟩:=by
    intro e;injection e with aP _ _
    have:=s.inj cb ca p q L7 L8 iY hZ aP;subst this;rw [aQ.yn] at heq;cases heq
   simp [Op.equalIn,run_underlying af,sizeOf,typeInfo,cu,cq,run_sameAddr_other w ck q7 Kh]
theorem VD {ay:Fr} {E:Env} {h:ah} {w:World} (s:bd ay E h w) {op:BinOp} {t:TypeId} {neg:Bool} (lQ:xg P op t=some neg) {x y:V} {fs iy:Operand} {X Y:Value} {b:Bool} (he:hs h x y=some b) (ak:Rel E x X) (aZ:Rel E y Y):
 ∃Z,(do eqGuard op t fs iy X Y;binOp op t X Y:Sem Value).run P w=.ok Z w/\Rel E (.bool (bif neg then !b else b)) Z:=by
 unfold xg at lQ;have main:jr P t=true->((op=.eql/\neg=false)\/(op=.neq/\neg=true))->∃Z,(do eqGuard op t fs iy X Y;binOp op t X Y:Sem Value).run P w=.ok Z w/\Rel E (.bool (bif neg then !b else b)) Z:=by
  intro av hD;obtain ⟨⟨a,c,rfl,rfl⟩,cZ⟩:=VE s av he ak aZ;have aB:=fun (o:BinOp)=>ED (P:=P) (op:=o) (t:=t) (x:=fs) (y:=iy) (X:=.pointer (some a)) (Y:=.pointer (some c)) (by simp) (.inl (by simp)) w;have aP:(Op.equal t (.pointer (some a)) (.pointer (some c))).run P w=.ok b w:=cZ 9999;rcases hD with ⟨rfl,rfl⟩ | ⟨rfl,rfl⟩
  . refine ⟨.bool b,?_,by simp [Rel]⟩;rw [Sem.run_bind,aB,Result.andThen_ok,binOp_eql (X:=.pointer (some a)) True.intro,Sem.run_bind,aP];rfl
  . refine ⟨.bool (!b),?_,by simp [Rel]⟩;rw [Sem.run_bind,aB,Result.andThen_ok,binOp_neq (X:=.pointer (some a)) True.intro,Sem.run_bind,aP];rfl
 cases op<;>simp only at lQ<;>try (cases lQ;done)
 . obtain ⟨aa,ad⟩:=eG lQ;cases ad;exact main aa (.inl ⟨rfl,rfl⟩)
 . obtain ⟨aa,ad⟩:=eG lQ;cases ad;exact main aa (.inr ⟨rfl,rfl⟩)
end
section
variable {P:Program}
def xY (P:Program) (w:World) (E:Env) (cA:TypeId) (e:dP):Prop:=
 ∀k bg K nT b,e.run k bg=some b->Rel E k K->Rel E bg nT->(Op.equal cA K nT).run P w=.ok b w/\(b=true->nT=K/\Instr.sameBits 10000 K K=true)
theorem alS {ay:Fr} {E:Env} {h:ah} {w:World} (s:bd ay E h w) {cA:TypeId} (av:jr P cA=true):xY P w E cA ⟨hs h⟩:=by
 intro k bg K nT b he ak aZ;obtain ⟨⟨a,c,rfl,rfl⟩,cZ⟩:=VE s av he ak aZ;refine ⟨cZ 9999,fun ae=>?_⟩;subst ae;simp only [hs] at he
 split at he
 case h_2=>cases he
 split at he
 case h_2=>cases he
 rename_i cb db _ ca dp;simp only [Rel] at ak aZ;obtain ⟨p,iY,ak⟩:=ak;obtain ⟨q,hZ,aZ⟩:=aZ;cases heq:aQ.gY cb ca with
 | false=>
   rw [heq] at he;simp only [cond_false] at he;obtain ⟨_,he⟩:=eG he;cases he
 | true=>
   rw [heq] at he;simp only [cond_true,Option.some.injEq] at he;have:=aQ.k_ heq;subst this;rw [iY] at hZ;cases hZ;have:=Nat.eq_of_beq_eq_true he;subst this;rw [ak,aZ];exact ⟨rfl,by simp [Instr.sameBits]⟩
theorem RJ {w:World} {E:Env} {cA:TypeId} {e:dP} (ho:xY P w E cA e) {k:V} {K:Value} (aH:Rel E k K):∀(es:List cI) (l:List MapEntry) (r:Option V) (i:Nat),nc e k es=some r->eE E es l->
 ∃R,(Instr.findAsking cA K l i).run P w=.ok R w/\(match r with
  | none=>R=none
  | some v=>∃j Y,R=some (j,Y)/\Rel E v Y)
 | [],l,r,i,h,aE=>by simp only [eE] at aE;subst aE;simp only [nc,Option.some.injEq] at h;subst h;exact ⟨none,rfl,rfl⟩
 | m::ms,l,r,i,h,aE=>by
   obtain ⟨dS,es,rfl,aa,ad,aJ,bG⟩:=aE;simp only [nc] at h;cases aS:e.run k m.k with
   | none=>rw [aS] at h;cases h
   | some b=>
     rw [aS] at h;simp only at h;obtain ⟨ar,aw⟩:=ho _ _ _ _ _ aS aH aa;cases b with
     | true=>
       simp only [cond_true,Option.some.injEq] at h;subst h;exact ⟨some (i,dS.val),by simp [Instr.findAsking,ar],i,dS.val,rfl,ad⟩
     | false=>
       simp only [cond_false] at h;obtain ⟨R,g1,g2⟩:=RJ ho aH ms es r (i+1) h bG;exact ⟨R,by simp [Instr.findAsking,ar,g1],g2⟩
theorem VH {w:World} {E:Env} {cA:TypeId} {e:dP} (ho:xY P w E cA e) {k v:V} {K X:Value} (aH:Rel E k K) (bj:Rel E v X) (clock:Nat):∀(es:List cI) (l:List MapEntry) (r:List cI × Bool) (i:Nat),kW e k v clock es=some r->eE E es l->
 (r.2=true->(Instr.findAsking cA K l i).run P w=.ok none w/\eE E r.1 (l++[⟨K,X,clock⟩]))/\
 (r.2=false->∃j dS Y,(Instr.findAsking cA K l i).run P w=.ok (some (i+j,Y)) w/\l[j]? =some dS/\Instr.sameBits 10000 dS.key K=true/\eE E r.1 (l.modify j fun dS=>{dS with key:=K,val:=X}))
 | [],l,r,i,h,aE=>by simp only [eE] at aE;subst aE;simp only [kW,Option.some.injEq] at h;subst h;exact ⟨fun _=>⟨rfl,_,_,rfl,aH,bj,rfl,rfl⟩,fun h=>by cases h⟩
 | m::ms,l,r,i,h,aE=>by
   obtain ⟨dS,es,rfl,aa,ad,aJ,bG⟩:=aE;simp only [kW] at h;cases aS:e.run k m.k with
   | none=>rw [aS] at h;cases h
   | some b=>
     rw [aS] at h;simp only at h;obtain ⟨ar,aw⟩:=ho _ _ _ _ _ aS aH aa;cases b with
     | true=>
       simp only [cond_true,Option.some.injEq] at h;subst h;obtain ⟨aK,bY⟩:=aw rfl;refine ⟨fun h=>(by cases h),fun _=>⟨0,dS,dS.val,by simp [Instr.findAsking,ar],rfl,by rw [aK];exact bY,?_⟩⟩;exact ⟨_,es,rfl,aH,bj,aJ,bG⟩
     | false=>
       simp only [cond_false] at h;cases af:kW e k v clock ms with
       | none=>rw [af] at h;cases h
       | some bD=>
         rw [af] at h;simp only [Option.some.injEq] at h;subst h;obtain ⟨g1,g2⟩:=VH ho aH bj clock ms es bD (i+1) af bG;refine ⟨fun h=>?_,fun h=>?_⟩
         . obtain ⟨bZ,a2⟩:=g1 h;exact ⟨by simp [Instr.findAsking,ar,bZ],⟨dS,es++[⟨K,X,clock⟩],rfl,aa,ad,aJ,a2⟩⟩
         . obtain ⟨j,cX,Y,bZ,a2,a3,a4⟩:=g2 h;exact ⟨j+1,cX,Y,by simp [Instr.findAsking,ar,bZ];omega,by simpa using a2,a3,⟨dS,_,rfl,aa,ad,aJ,a4⟩⟩
theorem amE {cA:TypeId} {hz:TypeId} {w:World} (hu:(underlying cA).run P w=.ok (.pointer hz) w) {K:Value} {l:List MapEntry} {R:Option (Nat × Value)} (h:(Instr.findAsking cA K l 0).run P w=.ok R w):
 (Instr.findKey cA K l).run P w=.ok R w:=by
 cases l with
 | nil=>
   simp only [Instr.findAsking,Sem.run_pure] at h;cases h;simp [Instr.findKey,hu,Instr.findNow]
 | cons dS es=>
   have aV:Instr.findNow (.pointer hz) K (dS::es) 0=none:=by simp [Instr.findNow,Instr.sameNow]
   simp [Instr.findKey,hu,aV,h]
theorem acI {x y:V} (h:vM x y=true):x=y:=by
 cases x<;>simp only [vM] at h<;>try (cases h;done)
 all_goals (cases y<;>simp only at h<;>try (cases h;done))
 . rw [beq_iff_eq] at h;rw [h]
 . simp only [Bool.and_eq_true,k_,beq_iff_eq] at h;rw [tS h.1,h.2]
 . rw [vA,beq_iff_eq] at h;rw [h]
theorem Rw:∀{xs cV:List V},vN xs cV=true->xs=cV
 | [],[],_=>rfl
 | [],_::_,h=>by cases h
 | _::_,[],h=>by cases h
 | x::xs,y::cV,h=>by
   simp only [vN] at h;cases aa:vM x y with
   | false=>rw [aa] at h;cases h
   | true=>rw [aa] at h;rw [acI aa,Rw h]
theorem acH {E:Env} {x:V} {X Y:Value} (h:vM x x=true) (b4:Rel E x X) (fH:Rel E x Y):X=Y/\∀n,Instr.sameBits n X X=true:=by
 cases x<;>simp only [vM] at h<;>try (cases h;done)
 . simp only [Rel] at b4 fH;subst b4 fH;exact ⟨rfl,fun n=>by cases n<;>simp [Instr.sameBits]⟩
 . simp only [Rel] at b4 fH;subst b4 fH;exact ⟨rfl,fun n=>by cases n<;>simp [Instr.sameBits]⟩
 . simp only [Rel] at b4 fH;subst b4 fH;exact ⟨rfl,fun n=>by cases n<;>simp [Instr.sameBits,bytes_beq]⟩
theorem Rv {E:Env}:∀{xs:List V} {l fh:List Value},vN xs xs=true->bk E xs l->bk E xs fh->l=fh/\∀n,((l.zip l).all fun (x,y)=>Instr.sameBits n x y)=true
 | [],l,fh,_,aa,ad=>by simp only [bk] at aa ad;subst aa ad;exact ⟨rfl,fun _=>rfl⟩
 | x::xs,l,fh,h,aa,ad=>by
   obtain ⟨y,cV,rfl,bZ,a2⟩:=aa;obtain ⟨xL,aq2,rfl,cb,ca⟩:=ad;simp only [vN] at h;cases aD:vM x x with
   | false=>rw [aD] at h;cases h
   | true=>
     rw [aD] at h;obtain ⟨rfl,ar⟩:=acH aD bZ cb;obtain ⟨rfl,aw⟩:=Rv h a2 ca;exact ⟨rfl,fun n=>by simp only [List.zip_cons_cons,List.all_cons,ar,aw,Bool.and_self]⟩
theorem anu {w:World} {E:Env} {cA:TypeId}:xY P w E cA (structEq P cA):=by
 intro k bg K nT b he ak aZ;simp only [structEq] at he
 split at he
 case h_2=>cases he
 split at he
 case h_2=>cases he
 rename_i xs _ cV;cases aC:(hW P 12 cA).run (.agg xs) (.agg cV) with
 | none=>rw [aC] at he;cases he
 | some c=>
   rw [aC] at he;have aS:=Jp 12 Op.maxDepth cA _ _ K nT c (by decide) aC ak aZ w;cases c with
   | false=>
     simp only [cond_false,Option.some.injEq] at he;subst he;exact ⟨aS,fun h=>by cases h⟩
   | true=>
     simp only [cond_true] at he;cases af:vN xs cV with
     | false=>rw [af] at he;cases he
     | true=>
       rw [af] at he;simp only [cond_true,Option.some.injEq] at he;subst he;refine ⟨aS,fun _=>?_⟩;have:=Rw af;subst this;simp only [Rel] at ak aZ;obtain ⟨a,rfl,aa⟩:=ak;obtain ⟨bw,rfl,ad⟩:=aZ;obtain ⟨e,q⟩:=Rv af aa ad;have cX:a=bw:=Array.toList_inj.1 e;subst cX;exact ⟨rfl,by show Instr.sameBits (9999+1) _ _=true;simp only [Instr.sameBits,beq_self_eq_true,Bool.true_and];exact q _⟩
theorem run_checkKey_plain {bh:TypeDesc} (az:kQ bh=true) {t:TypeId} {w:World} (hu:(underlying t).run P w=.ok bh w) (b:Bool) (n:Nat) (v:Value):(Instr.checkKey b (n+1) t v).run P w=.ok () w:=by
 unfold Instr.checkKey;rw [Sem.run_bind,hu];cases bh<;>simp only [kQ] at az<;>first
  | (cases az;done)
  | rfl
theorem adb {w:World} {E:Env} {cs:List V} {a:Array Value} (a1:bk E cs a.toList) (b:Bool) (n:Nat):∀(cx:List Field),EM P cs cx=true->
 (do for f in cx do
      if f.name≠ "_" then Instr.checkKey b (n+1) f.type (<-part f.type a f.offset):Sem Unit).run P w=.ok () w:=by
 intro cx
 induction cx with
 | nil=>intro _;simp
 | cons f cx bq=>
   intro h;simp only [EM] at h;cases aa:(qs P f.type f.offset).run cs with
   | none=>rw [aa] at h;cases h
   | some x=>
     rw [aa] at h;simp only at h;cases ad:a' P f.type with
     | none=>rw [ad] at h;cases h
     | some kK=>
       rw [ad] at h;simp only at h;cases aJ:kQ kK.bh with
       | false=>rw [aJ] at h;cases h
       | true=>
         rw [aJ] at h;simp only [cond_true] at h;obtain ⟨X,b4,_⟩:=CQ a1 aa w;have aH:=run_checkKey_plain (P:=P) aJ (fK ad w) b n X;have:=bq h;by_cases aV:f.name= "_"
         . simpa [aV] using this
         . simpa [aV,b4,aH] using this
theorem anv {t:TypeId} (h:mb P t=true) (w:World):∃cx,(underlying t).run P w=.ok (.struct cx) w:=by
 unfold mb at h;cases av:a' P t with
 | none=>rw [av] at h;cases h
 | some aR=>
   rw [av] at h;simp only at h;have hu:=fK av w;cases bU:aR.bh<;>rw [bU] at h<;>simp only at h<;>try (cases h;done)
   rw [bU] at hu;exact ⟨_,hu⟩
theorem amD {t:TypeId} {k:V} (aB:nw P t k=true) {E:Env} {K:Value} (aH:Rel E k K) {w:World} (b:Bool):(Instr.checkKey b 10000 t K).run P w=.ok () w:=by
 unfold nw at aB;cases av:a' P t with
 | none=>rw [av] at aB;cases aB
 | some aR=>
   rw [av] at aB;simp only at aB;have hu:=fK av w;cases bU:aR.bh<;>rw [bU] at aB<;>simp only at aB<;>try (cases aB;done)
   rename_i cx;rw [bU] at hu;cases k<;>simp only at aB<;>try (cases aB;done)
   rename_i cs;simp only [Rel] at aH;obtain ⟨a,rfl,a1⟩:=aH;show (Instr.checkKey b (9998+1+1) t (.agg a)).run P w=.ok () w;unfold Instr.checkKey;rw [Sem.run_bind,hu];have:=adb (P:=P) (w:=w) a1 b 9998 cx.toList aB;simp only [Result.andThen_ok,Array.forIn_toList] at this ⊢;exact this
theorem amF {cA:TypeId} {cx:Array Field} {w:World} (hu:(underlying cA).run P w=.ok (.struct cx) w) {K:Value} {l:List MapEntry} {R:Option (Nat × Value)} (h:(Instr.findAsking cA K l 0).run P w=.ok R w):
 (Instr.findKey cA K l).run P w=.ok R w:=by
 cases l with
 | nil=>
   simp only [Instr.findAsking,Sem.run_pure] at h;cases h;simp [Instr.findKey,hu,Instr.findNow]
 | cons dS es=>
   have aV:Instr.findNow (.struct cx) K (dS::es) 0=none:=by simp [Instr.findNow,Instr.sameNow]
   simp [Instr.findKey,hu,aV,h]
structure Ak (P:Program) (w:World) (E:Env) (cA:TypeId) (e:dP) (K:Value):Prop where
 eq:xY P w E cA e
 check:∀b,(Instr.checkKey b 10000 cA K).run P w=.ok () w
 find:∀{l:List MapEntry} {R},(Instr.findAsking cA K l 0).run P w=.ok R w->(Instr.findKey cA K l).run P w=.ok R w
theorem Ig {ay:Fr} {E:Env} {h:ah} {w:World} (s:bd ay E h w) {cA:TypeId} (av:jr P cA=true) (K:Value):Ak P w E cA ⟨hs h⟩ K:=by obtain ⟨Vk,nk⟩:=alT av w;exact ⟨alS s av,fun b=>amC nk b K,fun q=>amE nk q⟩
theorem Ih {w:World} {E:Env} {cA:TypeId} (av:mb P cA=true) {k:V} (aB:nw P cA k=true) {K:Value} (aH:Rel E k K):Ak P w E cA (structEq P cA) K:=by obtain ⟨cx,nk⟩:=anv av w;exact ⟨anu,fun b=>amD aB aH b,fun q=>amF nk q⟩
end
section
variable {P:Program}
theorem Lg {E:Env} {bh:TypeDesc} {k bg:V} {K nT:Value} {b:Bool} (he:(ll bh).run k bg=some b) (ak:Rel E k K) (aZ:Rel E bg nT):
 Instr.sameNow bh K nT=some b/\(b=true->nT=K/\∀n,Instr.sameBits n K K=true):=by
 cases bh<;>simp only [ll] at he<;>try (simp [dP.none] at he;done)
 case bool=>
  simp only [qT] at he;cases k<;>simp only at he<;>try (cases he;done)
  cases bg<;>simp only at he<;>try (cases he;done)
  simp only [Rel] at ak aZ;subst ak aZ;simp only [Option.some.injEq] at he;subst he;refine ⟨rfl,fun h=>?_⟩;rw [beq_iff_eq] at h;subst h;exact ⟨rfl,fun n=>by cases n<;>simp [Instr.sameBits]⟩
 case int iu=>
  simp only [oa] at he;obtain ⟨j,m,rfl,aa⟩:=ke he;clear he;obtain ⟨Ce,dt,rfl,ad⟩:=ke aa;clear aa;obtain ⟨aH,h⟩:=eG ad;clear ad;have:=tS aH;subst this;simp only [Rel] at ak aZ;subst ak aZ;simp only [Option.some.injEq,k_] at h;subst h;refine ⟨by simp [Instr.sameNow],fun h=>?_⟩;rw [beq_iff_eq] at h;subst h;exact ⟨rfl,fun n=>by cases n<;>simp [Instr.sameBits]⟩
 case string=>
  simp only [vO] at he;cases k<;>simp only at he<;>try (cases he;done)
  cases bg<;>simp only at he<;>try (cases he;done)
  simp only [Rel] at ak aZ;subst ak aZ;simp only [Option.some.injEq,vA] at he;subst he;refine ⟨by simp only [Instr.sameNow,bytes_beq],fun h=>?_⟩;rw [beq_iff_eq] at h;subst h;exact ⟨rfl,fun n=>by cases n<;>simp [Instr.sameBits,bytes_beq]⟩
theorem run_checkKey {bh:TypeDesc} (az:kQ bh=true) {t:TypeId} {w:World} (hu:(underlying t).run P w=.ok bh w) (b:Bool) (v:Value):(Instr.checkKey b 10000 t v).run P w=.ok () w:=by
 show (Instr.checkKey b (9999+1) t v).run P w=.ok () w;unfold Instr.checkKey;rw [Sem.run_bind,hu];cases bh<;>simp only [kQ] at az<;>first
  | (cases az;done)
  | rfl
theorem run_findKey {bh:TypeDesc} {t:TypeId} {w:World} (hu:(underlying t).run P w=.ok bh w) {K:Value} {l:List MapEntry} {R:Option (Nat × Value)} (h:Instr.findNow bh K l 0=some R):
 (Instr.findKey t K l).run P w=.ok R w:=by
 simp only [Instr.findKey,Sem.run_bind,hu,Result.andThen_ok,h,Sem.run_pure]
theorem RP {E:Env} {bh:TypeDesc} {k:V} {K:Value} (aH:Rel E k K):∀(es:List cI) (l:List MapEntry) (r:Option V) (i:Nat),nc (ll bh) k es=some r->eE E es l->
 ∃R,Instr.findNow bh K l i=some R/\(match r with
  | none=>R=none
  | some v=>∃j Y,R=some (j,Y)/\Rel E v Y)
 | [],l,r,i,h,aE=>by simp only [eE] at aE;subst aE;simp only [nc,Option.some.injEq] at h;subst h;exact ⟨none,rfl,rfl⟩
 | m::ms,l,r,i,h,aE=>by
   obtain ⟨e,es,rfl,aa,ad,aJ,bG⟩:=aE;simp only [nc] at h;cases aS:(ll bh).run k m.k with
   | none=>rw [aS] at h;cases h
   | some b=>
     rw [aS] at h;simp only at h;obtain ⟨ar,aw⟩:=Lg aS aH aa;cases b with
     | true=>
       simp only [cond_true,Option.some.injEq] at h;subst h;exact ⟨some (i,e.val),by simp only [Instr.findNow,ar],i,e.val,rfl,ad⟩
     | false=>
       simp only [cond_false] at h;obtain ⟨R,g1,g2⟩:=RP aH ms es r (i+1) h bG;exact ⟨R,by simp only [Instr.findNow,ar,g1],g2⟩
theorem VL {E:Env} {bh:TypeDesc} {k v:V} {K X:Value} (aH:Rel E k K) (bj:Rel E v X) (clock:Nat):∀(es:List cI) (l:List MapEntry) (r:List cI × Bool) (i:Nat),kW (ll bh) k v clock es=some r->eE E es l->
 (r.2=true->Instr.findNow bh K l i=some none/\eE E r.1 (l++[⟨K,X,clock⟩]))/\
 (r.2=false->∃j e Y,Instr.findNow bh K l i=some (some (i+j,Y))/\l[j]? =some e/\Instr.sameBits 10000 e.key K=true/\eE E r.1 (l.modify j fun e=>{e with key:=K,val:=X}))
 | [],l,r,i,h,aE=>by simp only [eE] at aE;subst aE;simp only [kW,Option.some.injEq] at h;subst h;exact ⟨fun _=>⟨rfl,_,_,rfl,aH,bj,rfl,rfl⟩,fun h=>by cases h⟩
 | m::ms,l,r,i,h,aE=>by
   obtain ⟨e,es,rfl,aa,ad,aJ,bG⟩:=aE;simp only [kW] at h;cases aS:(ll bh).run k m.k with
   | none=>rw [aS] at h;cases h
   | some b=>
     rw [aS] at h;simp only at h;obtain ⟨ar,aw⟩:=Lg aS aH aa;cases b with
     | true=>
       simp only [cond_true,Option.some.injEq] at h;subst h;obtain ⟨aK,bY⟩:=aw rfl;refine ⟨fun h=>(by cases h),fun _=>⟨0,e,e.val,by simp only [Instr.findNow,ar,Nat.add_zero],rfl,by rw [aK];exact bY _,?_⟩⟩;exact ⟨_,es,rfl,aH,bj,aJ,bG⟩
     | false=>
       simp only [cond_false] at h;cases af:kW (ll bh) k v clock ms with
       | none=>rw [af] at h;cases h
       | some bD=>
         rw [af] at h;simp only [Option.some.injEq] at h;subst h;obtain ⟨g1,g2⟩:=VL aH bj clock ms es bD (i+1) af bG;refine ⟨fun h=>?_,fun h=>?_⟩
         . obtain ⟨bZ,a2⟩:=g1 h;exact ⟨by simp only [Instr.findNow,ar,bZ],⟨e,es++[⟨K,X,clock⟩],rfl,aa,ad,aJ,a2⟩⟩
         . obtain ⟨j,cX,Y,bZ,a2,a3,a4⟩:=g2 h;exact ⟨j+1,cX,Y,by simp only [Instr.findNow,ar,bZ];congr 3;omega,by simpa using a2,a3,e,_,rfl,aa,ad,aJ,a4⟩
theorem LC {ay:Fr} {E:Env} {h:ah} {w:World} (s:bd ay E h w) {x:V} {X:Value} {es:List cI} (he:sX h x=some es) (ak:Rel E x X):
 (X=.map none/\es=[])\/∃r a clock,X=.map (some r)/\(getObj r).run P w=.ok (.map a clock) w/\eE E es a.toList:=by
 cases x<;>simp only [sX] at he<;>try (cases he;done)
 . simp only [Rel] at ak;exact .inl ⟨ak,by simpa using he.symm⟩
 . rename_i b;simp only [Rel] at ak;obtain ⟨p,af,rfl⟩:=ak;have ae:=s.at af;cases aB:h.get b<;>rw [aB] at he<;>simp only [cd.jZ] at he<;>try (cases he;done)
   simp only [Option.some.injEq] at he;subst he;rw [aB] at ae;obtain ⟨q,a,aa,_,aJ,bG⟩:=ae;rw [af] at aa;cases aa;exact .inr ⟨p.aN,a,_,rfl,by simp only [getObj,Sem.run,aJ];rfl,bG⟩
theorem RM {bh:TypeDesc} {K:Value}:∀{l:List MapEntry} {i:Nat},(∀e ∈ l,Instr.sameNow bh K e.key=some false)->Instr.findNow bh K l i=some none
 | [],_,_=>rfl
 | e::es,i,h=>by simp only [Instr.findNow,h e (by simp)];exact RM fun cX eQ=>h cX (by simp [eQ])
theorem RN {bh:TypeDesc} {K:Value}:∀{l:List MapEntry} {i:Nat},(∀e ∈ l,∃b,Instr.sameNow bh K e.key=some b)->(∃e ∈ l,Instr.sameNow bh K e.key=some true)->
 ∃j,∃e ∈ l,Instr.sameNow bh K e.key=some true/\Instr.findNow bh K l i=some (some (j,e.val))
 | [],_,_,h=>by obtain ⟨e,he,_⟩:=h;simp at he
 | e::es,i,aa,ad=>by
   obtain ⟨b,ae⟩:=aa e (by simp);cases b with
   | true=>exact ⟨i,e,by simp,ae,by simp only [Instr.findNow,ae]⟩
   | false=>
     obtain ⟨cX,eQ,av⟩:=ad;simp only [List.mem_cons] at eQ;rcases eQ with rfl | eQ
     . rw [ae] at av;cases av
     . obtain ⟨j,bf,ar,aw,aK⟩:=RN (i:=i+1) (fun x ak=>aa x (by simp [ak])) ⟨cX,eQ,av⟩;exact ⟨j,bf,by simp [ar],aw,by simp only [Instr.findNow,ae,aK]⟩
theorem RO {E:Env} {bh:TypeDesc} {k:V} {K:Value} (aH:Rel E k K):∀(es:List cI) (l:List MapEntry) (r:Option V),sn (ll bh) k es=some r->n2 E es l->
 (∀e ∈ l,∃b,Instr.sameNow bh K e.key=some b)/\(match r with
  | none=>∀e ∈ l,Instr.sameNow bh K e.key=some false
  | some v=>(∃e ∈ l,Instr.sameNow bh K e.key=some true)/\∀e ∈ l,Instr.sameNow bh K e.key=some true->Rel E v e.val)
 | [],l,r,h,aE=>by simp only [n2] at aE;subst aE;simp only [sn,Option.some.injEq] at h;subst h;exact ⟨fun e he=>by simp at he,fun e he=>by simp at he⟩
 | m::ms,l,r,h,aE=>by
   obtain ⟨e,es,rfl,aa,ad,bG⟩:=aE;simp only [sn] at h;cases az:sn (ll bh) k ms with
   | none=>rw [az] at h;cases h
   | some bD=>
     rw [az] at h;simp only at h;obtain ⟨g1,g2⟩:=RO aH ms es bD az bG;cases aS:(ll bh).run k m.k with
     | none=>rw [aS] at h;cases h
     | some b=>
       rw [aS] at h;simp only at h;obtain ⟨ar,_⟩:=Lg aS aH aa;have J3:∀cX ∈ e::es,∃b,Instr.sameNow bh K cX.key=some b:=by
        intro cX eQ;rcases List.mem_cons.1 eQ with rfl | eQ
        . exact ⟨b,ar⟩
        . exact g1 cX eQ
       refine ⟨J3,?_⟩;cases b with
       | true=>
         simp only [cond_true] at h;cases bD with
         | some _=>cases h
         | none=>
           simp only [Option.some.injEq] at h;subst h;refine ⟨⟨e,by simp,ar⟩,fun cX eQ av=>?_⟩;rcases List.mem_cons.1 eQ with rfl | eQ
           . exact ad
           . have:=g2 cX eQ;rw [av] at this;cases this
       | false=>
         simp only [cond_false,Option.some.injEq] at h;subst h;cases bD with
         | none=>
           intro cX eQ;rcases List.mem_cons.1 eQ with rfl | eQ
           . exact ar
           . exact g2 cX eQ
         | some v=>
           obtain ⟨⟨c_,e1,fZ⟩,y3⟩:=g2;refine ⟨⟨c_,by simp [e1],fZ⟩,fun cX eQ av=>?_⟩;rcases List.mem_cons.1 eQ with rfl | eQ
           . rw [ar] at av;cases av
           . exact y3 cX eQ av
theorem ac7 {E:Env} {bh:TypeDesc} {k:V} {K:Value} (aH:Rel E k K) {es:List cI} {l a:List MapEntry} {r:Option V} (h:sn (ll bh) k es=some r) (aE:n2 E es l) (af:l.Perm a):
 ∃R,Instr.findNow bh K a 0=some R/\(match r with
  | none=>R=none
  | some v=>∃j Y,R=some (j,Y)/\Rel E v Y):=by
 obtain ⟨aa,ad⟩:=RO aH es l r h aE;have hm:∀e,e ∈ a↔e ∈ l:=fun e=>af.mem_iff.symm;cases r with
 | none=>exact ⟨none,RM fun e he=>ad e ((hm e).1 he),rfl⟩
 | some v=>
   obtain ⟨⟨c_,e1,fZ⟩,y3⟩:=ad;obtain ⟨j,e,ar,aw,aK⟩:=RN (i:=0) (fun e he=>aa e ((hm e).1 he)) ⟨c_,(hm c_).2 e1,fZ⟩;exact ⟨_,aK,j,e.val,rfl,y3 e ((hm e).1 ar) aw⟩
theorem aj4 {e:dP} {z:V} {ok:Bool} {h:ah} {x k v:V} (he:ru e z ok h x k=some v):
 jq e z ok h x k=some v\/∃b es r,x=.map b/\h.get b=.jW es/\sn e k es=some r/\v=(match r with
  | some u=>bif ok then .tuple [u,.bool true] else u
  | none=>bif ok then .tuple [z,.bool false] else z):=by
 unfold ru at he;cases x<;>simp only at he<;>try (exact .inl he)
 rename_i b;cases aB:h.get b<;>rw [aB] at he<;>simp only at he<;>try (exact .inl he)
 rename_i es;cases az:sn e k es with
 | none=>rw [az] at he;cases he
 | some r=>
   rw [az] at he;refine .inr ⟨b,es,r,rfl,aB,az,?_⟩;cases r<;>simp only [Option.some.injEq] at he<;>exact he.symm
theorem aj3 {ay:Fr} {E:Env} {h:ah} {w:World} (s:bd ay E h w) {t:TypeId} {ok:Bool} {x k v:V} {X K:Value} (ak:Rel E x X) (aH:Rel E k K) (he:(Gd P t ok).run h x k=some v):
 ∃Z,(Instr.lookup t X K ok).run P w=.ok Z w/\Rel E v Z:=by
 unfold Gd at he;cases av:a' P t with
 | none=>rw [av] at he;cases he
 | some aR=>
   rw [av] at he;simp only at he;have hu:=fK av w;cases bU:aR.bh<;>rw [bU] at he<;>simp only at he<;>try (cases he;done)
   rename_i cA hz;rw [bU] at hu;cases oj:a' P cA with
   | none=>rw [oj] at he;cases he
   | some gO=>
     rw [oj] at he;simp only at he;cases het:a' P hz with
     | none=>rw [het] at he;cases he
     | some ba=>
       rw [het] at he;simp only at he;cases bn:ba.zero with
       | none=>rw [bn] at he;cases he
       | some z=>
         rw [bn] at he;simp only at he;cases az:kQ gO.bh with
         | false=>
           rw [az] at he;simp only [cond_false] at he;have ua:∃e,Ak P w E cA e K/\jq e z ok h x k=some v:=by
            cases p9:jr P cA with
            | true=>
              rw [p9] at he;exact ⟨_,Ig s p9 K,he⟩
            | false=>
              rw [p9] at he;simp only [cond_false] at he;cases cO:mb P cA with
              | false=>rw [cO] at he;cases he
              | true=>
                rw [cO] at he;simp only [cond_true] at he;obtain ⟨aB,he⟩:=eG he;exact ⟨_,Ih cO aB aH,he⟩
           clear he;obtain ⟨e,ask,he⟩:=ua;obtain ⟨u',nu,mx,_⟩:=zX (P:=P) het bn E w;simp only [jq] at he;cases hm:sX h x with
           | none=>rw [hm] at he;cases he
           | some es=>
             rw [hm] at he;simp only at he;cases wj:nc e k es with
             | none=>rw [wj] at he;cases he
             | some r=>
               rw [wj] at he;simp only at he;have main:∀(l:List MapEntry),eE E es l->∃R,(Instr.findKey cA K l).run P w=.ok R w/\
                ((R=none/\Rel E v (if ok=true then .tuple #[u',.bool false] else u'))\/∃j Y,R=some (j,Y)/\Rel E v (if ok=true then .tuple #[Y,.bool true] else Y)):=by
                intro l aA;obtain ⟨R,g1,g2⟩:=RJ ask.eq aH es l r 0 wj aA;refine ⟨R,ask.find g1,?_⟩;cases r with
                | none=>
                  simp only at g2 he;refine .inl ⟨g2,?_⟩;simp only [Option.some.injEq] at he;subst he;cases ok
                  . exact mx
                  . simp only [cond_true,if_true,Rel,bk];exact ⟨_,rfl,_,_,rfl,mx,_,_,rfl,rfl,rfl⟩
                | some u=>
                  simp only at g2 he;obtain ⟨j,Y,cL,fH⟩:=g2;refine .inr ⟨j,Y,cL,?_⟩;simp only [Option.some.injEq] at he;subst he;cases ok
                  . exact fH
                  . simp only [cond_true,if_true,Rel,bk];exact ⟨_,rfl,_,_,rfl,fH,_,_,rfl,rfl,rfl⟩
               rcases LC (P:=P) s hm ak with ⟨rfl,rfl⟩ | ⟨bt,a,clock,rfl,fe,wA⟩
               . obtain ⟨R,g1,g2⟩:=main [] rfl;have gZ:=ask.check true;rcases g2 with ⟨rfl,g3⟩ | ⟨j,Y,rfl,g3⟩
                 all_goals
                  refine ⟨_,?_,g3⟩;simp only [Instr.lookup,Sem.run_bind,hu,Result.andThen_ok,Sem.run_pure];have aP:(#[]:Array MapEntry).isEmpty=true:=rfl;rw [aP,gZ,Result.andThen_ok,g1,Result.andThen_ok];simp only [Sem.run_bind,nu,Result.andThen_ok,Sem.run_pure]
               . obtain ⟨R,g1,g2⟩:=main a.toList wA;have gZ:=ask.check a.isEmpty;rcases g2 with ⟨rfl,g3⟩ | ⟨j,Y,rfl,g3⟩
                 all_goals
                  refine ⟨_,?_,g3⟩;simp only [Instr.lookup,Sem.run_bind,hu,Result.andThen_ok,Sem.run_pure,fe];rw [gZ,Result.andThen_ok,g1,Result.andThen_ok];simp only [Sem.run_bind,nu,Result.andThen_ok,Sem.run_pure]
         | true=>
           rw [az] at he;simp only [cond_true] at he;obtain ⟨u',nu,mx,_⟩:=zX (P:=P) het bn E w;have nk:=fK oj w;rcases aj4 he with he | ⟨b,es,r,rfl,aB,aeO,rfl⟩
           case inr=>
            simp only [Rel] at ak;obtain ⟨p,af,rfl⟩:=ak;have ae:=s.at af;rw [aB] at ae;obtain ⟨p',a,c,l,gF,_,bl,afZ,af0⟩:=ae;rw [af] at gF;cases gF;obtain ⟨R,g1,g2⟩:=ac7 aH aeO afZ af0;have fe:(getObj p.aN).run P w=.ok (.map a c) w:=by simp only [getObj,Sem.run,bl]
            have gZ:=run_checkKey (P:=P) az nk a.isEmpty K;have EU:=run_findKey nk g1;cases r with
            | none=>
              simp only at g2;subst g2;refine ⟨if ok=true then .tuple #[u',.bool false] else u',?_,?_⟩
              . simp only [Instr.lookup,Sem.run_bind,hu,Result.andThen_ok,Sem.run_pure,fe];rw [gZ,Result.andThen_ok,EU,Result.andThen_ok];simp only [Sem.run_bind,nu,Result.andThen_ok,Sem.run_pure]
              . cases ok
                . exact mx
                . simp only [cond_true,if_true,Rel,bk];exact ⟨_,rfl,_,_,rfl,mx,_,_,rfl,rfl,rfl⟩
            | some u=>
              simp only at g2;obtain ⟨j,Y,rfl,fH⟩:=g2;refine ⟨if ok=true then .tuple #[Y,.bool true] else Y,?_,?_⟩
              . simp only [Instr.lookup,Sem.run_bind,hu,Result.andThen_ok,Sem.run_pure,fe];rw [gZ,Result.andThen_ok,EU,Result.andThen_ok];simp only [Sem.run_bind,Sem.run_pure,Result.andThen_ok]
              . cases ok
                . exact fH
                . simp only [cond_true,if_true,Rel,bk];exact ⟨_,rfl,_,_,rfl,fH,_,_,rfl,rfl,rfl⟩
           simp only [jq] at he;cases hm:sX h x with
           | none=>rw [hm] at he;cases he
           | some es=>
             rw [hm] at he;simp only at he;cases wj:nc (ll gO.bh) k es with
             | none=>rw [wj] at he;cases he
             | some r=>
               rw [wj] at he;simp only at he;have main:∀(l:List MapEntry),eE E es l->∃R,(Instr.findKey cA K l).run P w=.ok R w/\
                ((R=none/\Rel E v (if ok=true then .tuple #[u',.bool false] else u'))\/∃j Y,R=some (j,Y)/\Rel E v (if ok=true then .tuple #[Y,.bool true] else Y)):=by
                intro l aA;obtain ⟨R,g1,g2⟩:=RP aH es l r 0 wj aA;refine ⟨R,run_findKey nk g1,?_⟩;cases r with
                | none=>
                  simp only at g2 he;refine .inl ⟨g2,?_⟩;simp only [Option.some.injEq] at he;subst he;cases ok
                  . exact mx
                  . simp only [cond_true,if_true,Rel,bk];exact ⟨_,rfl,_,_,rfl,mx,_,_,rfl,rfl,rfl⟩
                | some u=>
                  simp only at g2 he;obtain ⟨j,Y,cL,fH⟩:=g2;refine .inr ⟨j,Y,cL,?_⟩;simp only [Option.some.injEq] at he;subst he;cases ok
                  . exact fH
                  . simp only [cond_true,if_true,Rel,bk];exact ⟨_,rfl,_,_,rfl,fH,_,_,rfl,rfl,rfl⟩
               rcases LC (P:=P) s hm ak with ⟨rfl,rfl⟩ | ⟨bt,a,clock,rfl,fe,wA⟩
               . obtain ⟨R,g1,g2⟩:=main [] rfl;have gZ:=run_checkKey (P:=P) az nk true K;rcases g2 with ⟨rfl,g3⟩ | ⟨j,Y,rfl,g3⟩
                 all_goals
                  refine ⟨_,?_,g3⟩;simp only [Instr.lookup,Sem.run_bind,hu,Result.andThen_ok,Sem.run_pure];have aP:(#[]:Array MapEntry).isEmpty=true:=rfl;rw [aP,gZ,Result.andThen_ok,g1,Result.andThen_ok];simp only [Sem.run_bind,nu,Result.andThen_ok,Sem.run_pure]
               . obtain ⟨R,g1,g2⟩:=main a.toList wA;have gZ:=run_checkKey (P:=P) az nk a.isEmpty K;rcases g2 with ⟨rfl,g3⟩ | ⟨j,Y,rfl,g3⟩
                 all_goals
                  refine ⟨_,?_,g3⟩;simp only [Instr.lookup,Sem.run_bind,hu,Result.andThen_ok,Sem.run_pure,fe];rw [gZ,Result.andThen_ok,g1,Result.andThen_ok];simp only [Sem.run_bind,nu,Result.andThen_ok,Sem.run_pure]
theorem Xo {ay:Fr} {E:Env} {h ab:ah} {w:World} (s:bd ay E h w) {t:TypeId} {x k v:V} {X K Y:Value} (ak:Rel E x X) (aH:Rel E k K) (bj:Rel E v Y) (he:(pG P t).run h x k v=some ab):
 ∃an,(Instr.mapUpdate t X K Y).run P w=.ok () an/\bd ay E ab an:=by
 unfold pG at he;cases av:a' P t with
 | none=>rw [av] at he;cases he
 | some aR=>
   rw [av] at he;simp only at he;have hu:=fK av w;cases bU:aR.bh<;>rw [bU] at he<;>simp only at he<;>try (cases he;done)
   rename_i cA hz;rw [bU] at hu;cases oj:a' P cA with
   | none=>rw [oj] at he;cases he
   | some gO=>
     rw [oj] at he;simp only at he;cases az:kQ gO.bh with
     | false=>
       rw [az] at he;simp only [cond_false] at he;have ua:∃e,Ak P w E cA e K/\k0 e h x k v=some ab:=by
        cases p9:jr P cA with
        | true=>
          rw [p9] at he;exact ⟨_,Ig s p9 K,he⟩
        | false=>
          rw [p9] at he;simp only [cond_false] at he;cases cO:mb P cA with
          | false=>rw [cO] at he;cases he
          | true=>
            rw [cO] at he;simp only [cond_true] at he;obtain ⟨aB,he⟩:=eG he;exact ⟨_,Ih cO aB aH,he⟩
       clear he;obtain ⟨e,ask,he⟩:=ua;cases x<;>simp only [k0] at he<;>try (cases he;done)
       rename_i b;simp only [Rel] at ak;obtain ⟨p,af,rfl⟩:=ak;have ae:=s.at af;cases aB:h.get b<;>rw [aB] at he<;>simp only [cd.jZ] at he<;>try (cases he;done)
       rename_i es clock;rw [aB] at ae;obtain ⟨q,a,aa,da,aJ,bG⟩:=ae;rw [af] at aa;cases aa;cases wE:kW e k v clock es with
       | none=>rw [wE] at he;cases he
       | some r=>
         rw [wE] at he;simp only [Option.some.injEq] at he;subst he;have fe:(getObj p.aN).run P w=.ok (.map a clock) w:=by simp only [getObj,Sem.run,aJ]
         have gZ:=ask.check false;have lP:=(Array.getElem?_eq_some_iff.1 aJ).1;have Ba:∀(bw:Array MapEntry) (fS:Nat),eE E r.1 bw.toList->fS=(bif r.2 then clock+1 else clock)->
          ∃an,(setObj p.aN (.map bw fS)).run P w=.ok () an/\bd ay E (h.set b (.mp r.1 (bif r.2 then clock+1 else clock))) an:=by
          intro bw fS hm aD;refine ⟨{w with heap:=w.heap.setIfInBounds p.aN (.map bw fS)},by simp only [setObj,Sem.run,aJ],s.set (p:=p) (by rw [aB];rfl) af da (by simp) (fun j aU=>?_) rfl rfl rfl (fun _ _ _ e=>by cases e) ?_⟩
          . simp only [Array.getElem?_setIfInBounds];rw [if_neg (fun e=>aU e.symm)]
          . exact ⟨p,bw,af,da,by simp [lP,aD],hm⟩
         obtain ⟨g1,g2⟩:=VH ask.eq aH bj clock es a.toList r 0 wE bG;cases lR:r.2 with
         | true=>
           obtain ⟨bZ,a2⟩:=g1 lR;obtain ⟨an,d1,d2⟩:=Ba (a.push ⟨K,Y,clock⟩) (clock+1) (by simpa using a2) (by rw [lR];rfl);rw [lR] at d2;refine ⟨an,?_,d2⟩;simp only [Instr.mapUpdate,Sem.run_bind,hu,Result.andThen_ok,fe,gZ,ask.find bZ,d1]
         | false=>
           obtain ⟨j,dS,Y2,bZ,a2,a3,a4⟩:=g2 lR;obtain ⟨an,d1,d2⟩:=Ba (a.modify j fun dS=>{dS with key:=K,val:=Y}) clock (by simpa using a4) (by rw [lR];rfl);rw [lR] at d2;refine ⟨an,?_,d2⟩;rw [Nat.zero_add] at bZ;have aP:a[j]? =some dS:=by simpa using a2
           simp only [Instr.mapUpdate,Sem.run_bind,hu,Result.andThen_ok,fe,gZ,ask.find bZ,aP,Option.map,Option.getD,Instr.keyThatStays,a3,if_true,Sem.run_pure,d1]
     | true=>
       rw [az] at he;simp only [cond_true] at he;have nk:=fK oj w;cases x<;>simp only [k0] at he<;>try (cases he;done)
       rename_i b;simp only [Rel] at ak;obtain ⟨p,af,rfl⟩:=ak;have ae:=s.at af;cases aB:h.get b<;>rw [aB] at he<;>simp only [cd.jZ] at he<;>try (cases he;done)
       rename_i es clock;rw [aB] at ae;obtain ⟨q,a,aa,da,aJ,bG⟩:=ae;rw [af] at aa;cases aa;cases wE:kW (ll gO.bh) k v clock es with
       | none=>rw [wE] at he;cases he
       | some r=>
         rw [wE] at he;simp only [Option.some.injEq] at he;subst he;have fe:(getObj p.aN).run P w=.ok (.map a clock) w:=by simp only [getObj,Sem.run,aJ]
         have gZ:=run_checkKey (P:=P) az nk false K;have lP:=(Array.getElem?_eq_some_iff.1 aJ).1;have done:∀(bw:Array MapEntry) (fS:Nat),eE E r.1 bw.toList->fS=(bif r.2 then clock+1 else clock)->
          ∃an,(setObj p.aN (.map bw fS)).run P w=.ok () an/\bd ay E (h.set b (.mp r.1 (bif r.2 then clock+1 else clock))) an:=by
          intro bw fS hm aD;refine ⟨{w with heap:=w.heap.setIfInBounds p.aN (.map bw fS)},by simp only [setObj,Sem.run,aJ],s.set (p:=p) (by rw [aB];rfl) af da (by simp) (fun j aU=>?_) rfl rfl rfl (fun _ _ _ e=>by cases e) ?_⟩
          . simp only [Array.getElem?_setIfInBounds];rw [if_neg (fun e=>aU e.symm)]
          . exact ⟨p,bw,af,da,by simp [lP,aD],hm⟩
         obtain ⟨g1,g2⟩:=VL aH bj clock es a.toList r 0 wE bG;cases lR:r.2 with
         | true=>
           obtain ⟨bZ,a2⟩:=g1 lR;obtain ⟨an,d1,d2⟩:=done (a.push ⟨K,Y,clock⟩) (clock+1) (by simpa using a2) (by rw [lR];rfl);rw [lR] at d2;refine ⟨an,?_,d2⟩;simp only [Instr.mapUpdate,Sem.run_bind,hu,Result.andThen_ok,fe,gZ,run_findKey nk bZ,d1]
         | false=>
           obtain ⟨j,e,Y2,bZ,a2,a3,a4⟩:=g2 lR;obtain ⟨an,d1,d2⟩:=done (a.modify j fun e=>{e with key:=K,val:=Y}) clock (by simpa using a4) (by rw [lR];rfl);rw [lR] at d2;refine ⟨an,?_,d2⟩;rw [Nat.zero_add] at bZ;have aP:a[j]? =some e:=by simpa using a2
           simp only [Instr.mapUpdate,Sem.run_bind,hu,Result.andThen_ok,fe,gZ,run_findKey nk bZ,aP,Option.map,Option.getD,Instr.keyThatStays,a3,if_true,Sem.run_pure,d1]
theorem UF {ay:Fr} {E:Env} {h ab:ah} {w:World} (s:bd ay E h w) {v:V} (he:zw h=.val v ab):df ay P E w (do pure (.map (some (<-newObj (.map #[] 0))))) v ab:=by
 unfold zw at he;simp only [a7.val.injEq] at he;obtain ⟨rfl,rfl⟩:=he;have dE:=s.fresh h.next (Nat.le_refl _)
 have dT:E.put (aj h.next) ⟨w.heap.size,0,0⟩ (aj h.next)=some ⟨w.heap.size,0,0⟩:=by unfold Env.put;rw [if_pos rfl]
 refine ⟨.map (some w.heap.size),{w with heap:=w.heap.push (.map #[] 0)},_,?_,Env.l1 (p:=⟨w.heap.size,0,0⟩) dE,?_,s.alloc 0 ?_⟩
 . simp only [Sem.run_bind,run_newObj,Result.andThen_ok,Sem.run_pure]
 . simp only [Rel];exact ⟨_,dT,rfl⟩
 . exact ⟨_,#[],dT,s.frame.size,by simp,rfl⟩
theorem akc {ay:Fr} {E:Env} {h ab:ah} {w:World} (s:bd ay E h w) {t:TypeId} {x:Option V} {X:Option Value} {v:V} (ak:ic E x X) (he:zv P t x h=.val v ab):df ay P E w (Instr.makeMap t X) v ab:=by
 unfold zv at he;cases av:a' P t with
 | none=>rw [av] at he;cases he
 | some aR=>
   rw [av] at he;simp only at he;have hu:=fK av;cases ae:Nat.beq (fi aR.bh) 3 with
   | false=>rw [ae] at he;cases he
   | true=>
     rw [ae] at he;simp only [cond_true] at he;cases x with
     | none=>
       have:X=none:=by cases X with | none=>rfl | some _=>simp [ic] at ak
       subst this;simp only [sV] at he;have:=UF (P:=P) s he;exact this
     | some u=>
       simp only [sV] at he;obtain ⟨dj,n,rfl,aa⟩:=s3 he;obtain ⟨Y,rfl,fH⟩:∃Y,X=some Y/\Rel E (.int dj n) Y:=by
        cases X with
        | none=>simp [ic] at ak
        | some Y=>simp only [ic] at ak;obtain ⟨apa,aa,ad⟩:=ak;cases aa;exact ⟨_,rfl,ad⟩
       have:=fH.iZ;subst this;obtain ⟨Z,an,ax,ar,aw⟩:=UF (P:=P) s aa;refine ⟨Z,an,ax,?_,aw⟩;cases bU:aR.bh<;>rw [bU] at ae<;>simp [fi] at ae;have hu:=hu w;rw [bU] at hu;simp only [Instr.makeMap,Sem.run_bind,hu,Result.andThen_ok,asInt,Sem.run_pure];exact ar
theorem ajB {ay:Fr} {E:Env} {h ab:ah} {w:World} (s:bd ay E h w) {t:TypeId} {aR:n1} (av:a' P t=some aR) (hm:uv aR.bh=true) {x v:V} {X:Value} (ak:Rel E x X) (ty:TypeId) (rest:List TypeId)
 (he:Cp [x] h=.val v ab):df ay P E w (Builtin.len_ (t::rest).toArray ty #[X]) v ab:=by
 simp only [Cp] at he;cases aS:sX h x with
 | none=>rw [aS] at he;cases he
 | some es=>
   rw [aS] at he;simp only [a7.val.injEq] at he;obtain ⟨rfl,rfl⟩:=he;have hu:=fK av w;cases bU:aR.bh<;>rw [bU] at hm<;>simp [uv] at hm;rw [bU] at hu;rcases LC (P:=P) s aS ak with ⟨rfl,rfl⟩ | ⟨bt,a,clock,rfl,fe,wA⟩
   . refine df.plain (Z:=goInt 0) s ?_ (by simp [Rel,goInt]);simp [Builtin.len_,hu]
   . have hlen:∀(ms:List cI) (l:List MapEntry),eE E ms l->l.length=ms.length:=by
      intro ms
      induction ms with
      | nil=>intro l h;simp only [eE] at h;subst h;rfl
      | cons m ms bq=>intro l h;obtain ⟨e,es,rfl,_,_,_,bG⟩:=h;simp [bq _ bG]
     refine df.plain (Z:=goInt a.size) s ?_ ?_
     . simp [Builtin.len_,hu,fe]
     . have:=hlen _ _ wA;simp only [Array.length_toList] at this;simp [Rel,goInt,this]
end
section
variable {P:Program}
theorem RH {E:Env} {v:V} {Y:Value} (bj:Rel E v Y) {n:Nat}:∀(es:List cI) (l:List MapEntry) (r:List cI),sl n v es=some r->eE E es l->
 ∃j,l.findIdx? (fun e=>(e.born:Int) == (n:Int))=some j/\eE E r (l.modify j fun e=>{e with val:=Y})
 | [],l,r,h,aE=>by cases h
 | m::ms,l,r,h,aE=>by
   obtain ⟨e,es,rfl,aa,ad,aJ,bG⟩:=aE;simp only [sl] at h;cases ae:Nat.beq m.born n with
   | true=>
     rw [ae] at h;simp only [cond_true,Option.some.injEq] at h;subst h;have aV:=Nat.eq_of_beq_eq_true ae;refine ⟨0,by simp [List.findIdx?_cons,aJ,aV],?_⟩;exact ⟨_,es,rfl,aa,bj,aJ,bG⟩
   | false=>
     rw [ae] at h;simp only [cond_false] at h;cases az:sl n v ms with
     | none=>rw [az] at h;cases h
     | some bD=>
       rw [az] at h;simp only [Option.some.injEq] at h;subst h;obtain ⟨j,g1,g2⟩:=RH bj ms es bD az bG;have ck:¬((e.born:Int) == (n:Int))=true:=by
        rw [aJ];intro aC;have y1:(m.born:Int)=(n:Int):=by simpa using aC
        have afA:m.born=n:=by omega
        rw [afA,Nat.beq_refl] at ae;cases ae
       refine ⟨j+1,by simp only [List.findIdx?_cons,ck];simp [g1],⟨e,_,by simp [List.modify],aa,ad,aJ,g2⟩⟩
theorem acD {ay:Fr} {E:Env} {h ab:ah} {w:World} (s:bd ay E h w) {t:TypeId} {x st v:V} {X S Y:Value} (ak:Rel E x X) (cO:Rel E st S) (bj:Rel E v Y) (he:tR h x st v=some ab):
 ∃an,(Instr.entryStore t X S Y).run P w=.ok () an/\bd ay E ab an:=by
 unfold tR at he
 split at he
 case h_2=>cases he
 rename_i b
 split at he
 case h_2=>cases he
 rename_i dj m
 split at he
 case h_2=>cases he
 rename_i n;simp only [Rel] at ak cO;obtain ⟨p,af,rfl⟩:=ak;subst cO;have ae:=s.at af;cases aB:h.get b<;>rw [aB] at he<;>simp only [cd.jZ] at he<;>try (cases he;done)
 rename_i es clock;rw [aB] at ae;obtain ⟨q,a,aa,da,aJ,bG⟩:=ae;rw [af] at aa;cases aa;cases az:sl n v es with
 | none=>rw [az] at he;cases he
 | some r=>
   rw [az] at he;simp only [Option.some.injEq] at he;subst he;obtain ⟨j,g1,g2⟩:=RH bj es a.toList r az bG;have fe:(getObj p.aN).run P w=.ok (.map a clock) w:=by simp only [getObj,Sem.run,aJ]
   have lP:=(Array.getElem?_eq_some_iff.1 aJ).1;have EU:a.findIdx? (fun e=>(e.born:Int) == (n:Int))=some j:=by rw [<-g1];cases a with | mk Cm=>simp
   have a1:(asInt (.int dj (Int.ofNat n))).run P w=.ok (n:Int) w:=by simp [asInt,asIntOf]
   refine ⟨{w with heap:=w.heap.setIfInBounds p.aN (.map (a.modify j fun e=>{e with val:=Y}) clock)},?_,s.set (p:=p) (by rw [aB];rfl) af da (by simp) (fun j aU=>?_) rfl rfl rfl (fun _ _ _ e=>by cases e) ?_⟩
   . simp only [Instr.entryStore,Sem.run_bind,fe,Result.andThen_ok,a1,EU,setObj,Sem.run,aJ]
   . simp only [Array.getElem?_setIfInBounds];rw [if_neg (fun e=>aU e.symm)]
   . exact ⟨p,a.modify j fun e=>{e with val:=Y},af,da,by simp [lP],by rw [Array.toList_modify];exact g2⟩
theorem RL {w:World} {E:Env} {cA:TypeId} {e:dP} (ho:xY P w E cA e) {k:V} {K:Value} (aH:Rel E k K):∀(es:List cI) (l:List MapEntry) (r:Option cI) (i:Nat),q0 e k es=some r->eE E es l->
 (r=none->(Instr.findAsking cA K l i).run P w=.ok none w)/\
 (∀m,r=some m->∃j dS,(Instr.findAsking cA K l i).run P w=.ok (some (i+j,dS.val)) w/\l[j]? =some dS/\dS.key=K/\Rel E m.v dS.val/\dS.born=m.born/\Instr.sameBits 10000 K K=true/\eE E es (l.modify j fun dS=>{dS with key:=K}))
 | [],l,r,i,h,aE=>by simp only [eE] at aE;subst aE;simp only [q0,Option.some.injEq] at h;subst h;exact ⟨fun _=>rfl,fun m hm=>by cases hm⟩
 | m::ms,l,r,i,h,aE=>by
   obtain ⟨dS,es,rfl,aa,ad,aJ,bG⟩:=aE;simp only [q0] at h;cases aS:e.run k m.k with
   | none=>rw [aS] at h;cases h
   | some b=>
     rw [aS] at h;simp only at h;obtain ⟨ar,aw⟩:=ho _ _ _ _ _ aS aH aa;cases b with
     | true=>
       simp only [cond_true,Option.some.injEq] at h;subst h;obtain ⟨aK,bY⟩:=aw rfl;refine ⟨fun h=>(by cases h),fun dt hm=>?_⟩;cases hm;exact ⟨0,dS,by simp [Instr.findAsking,ar],rfl,aK,ad,aJ,bY,⟨_,es,rfl,by rw [<-aK];exact aa,ad,aJ,bG⟩⟩
     | false=>
       simp only [cond_false] at h;obtain ⟨g1,g2⟩:=RL ho aH ms es r (i+1) h bG;refine ⟨fun h=>by simp [Instr.findAsking,ar,g1 h],fun dt hm=>?_⟩;obtain ⟨j,acA,bZ,a2,a3,a4,a5,hl,qN⟩:=g2 dt hm;exact ⟨j+1,acA,by simp [Instr.findAsking,ar,bZ];omega,by simpa using a2,a3,a4,a5,hl,⟨dS,_,rfl,aa,ad,aJ,qN⟩⟩
theorem Uq {ay:Fr} {E:Env} {h ab:ah} {w:World} (s:bd ay E h w) {t cA hz:TypeId} (hu:(underlying t).run P w=.ok (.map cA hz) w) {e:dP} {z:V} {Z:Value} (bn:(zeroValue hz).run P w=.ok Z w) (mx:Rel E z Z)
 {x k v:V} {X K:Value} (ak:Rel E x X) (aH:Rel E k K) (ask:Ak P w E cA e K) (he:w3 e z h x k=some (v,ab)):df ay P E w (Instr.mapEntry t X K) v ab:=by
 unfold w3 at he
 split at he
 case h_2=>cases he
 rename_i b;simp only [Rel] at ak;obtain ⟨p,af,rfl⟩:=ak;have ae:=s.at af;cases aB:h.get b<;>rw [aB] at he<;>simp only [cd.jZ] at he<;>try (cases he;done)
 rename_i es clock;rw [aB] at ae;obtain ⟨q,a,aa,da,aJ,bG⟩:=ae;rw [af] at aa;cases aa;have fe:(getObj p.aN).run P w=.ok (.map a clock) w:=by simp only [getObj,Sem.run,aJ]
 have gZ:=ask.check false;have lP:=(Array.getElem?_eq_some_iff.1 aJ).1;have Ba:∀(gw:List cI) (bw:Array MapEntry) (fS:Nat),eE E gw bw.toList->
  ∃an,(setObj p.aN (.map bw fS)).run P w=.ok () an/\bd ay E (h.set b (.mp gw fS)) an:=by
  intro gw bw fS hm;refine ⟨{w with heap:=w.heap.setIfInBounds p.aN (.map bw fS)},by simp only [setObj,Sem.run,aJ],s.set (p:=p) (by rw [aB];rfl) af da (by simp) (fun j aU=>?_) rfl rfl rfl (fun _ _ _ e=>by cases e) ?_⟩
  . simp only [Array.getElem?_setIfInBounds];rw [if_neg (fun e=>aU e.symm)]
  . exact ⟨p,bw,af,da,by simp [lP],hm⟩
 cases az:q0 e k es with
 | none=>rw [az] at he;cases he
 | some r=>
   rw [az] at he;simp only at he;obtain ⟨g1,g2⟩:=RL ask.eq aH es a.toList r 0 az bG;cases r with
   | none=>
     simp only [Option.some.injEq,Prod.mk.injEq] at he;obtain ⟨rfl,rfl⟩:=he;have bZ:=ask.find (g1 rfl);obtain ⟨an,d1,d2⟩:=Ba (es++[⟨k,z,clock⟩]) (a.push ⟨K,Z,clock⟩) (clock+1) (by
      have:∀(es:List cI) (l:List MapEntry),eE E es l->eE E (es++[⟨k,z,clock⟩]) (l++[⟨K,Z,clock⟩]):=by
       intro es
       induction es with
       | nil=>intro l aA;simp only [eE] at aA;subst aA;exact ⟨_,_,rfl,aH,mx,rfl,rfl⟩
       | cons m ms bq=>intro l aA;obtain ⟨dS,gw,rfl,cb,ca,e5,ik⟩:=aA;exact ⟨dS,_,rfl,cb,ca,e5,bq _ ik⟩
      simpa using this es a.toList bG)
     refine ⟨.tuple #[Z,goInt clock],an,E,?_,Env.le.refl E,?_,d2⟩
     . simp only [Instr.mapEntry,Sem.run_bind,hu,Result.andThen_ok,fe,gZ,bZ,bn,d1,Sem.run_pure]
     . simp only [Rel,bk];exact ⟨_,rfl,_,_,rfl,mx,_,_,rfl,rfl,rfl⟩
   | some m=>
     simp only [Option.some.injEq,Prod.mk.injEq] at he;obtain ⟨rfl,rfl⟩:=he;obtain ⟨j,dS,bZ,a2,a3,a4,a5,hl,qN⟩:=g2 m rfl;rw [Nat.zero_add] at bZ;have cb:=ask.find bZ;have aP:a[j]? =some dS:=by simpa using a2
     obtain ⟨an,d1,d2⟩:=Ba es (a.modify j fun dS=>{dS with key:=K}) clock (by rw [Array.toList_modify];exact qN);refine ⟨.tuple #[dS.val,goInt dS.born],an,E,?_,Env.le.refl E,?_,d2⟩
     . simp only [Instr.mapEntry,Sem.run_bind,hu,Result.andThen_ok,fe,gZ,cb,aP,Option.map,Option.getD,a3,Instr.keyThatStays,hl,if_true,Sem.run_pure,d1]
     . simp only [Rel,bk];exact ⟨_,rfl,_,_,rfl,a4,_,_,rfl,by rw [a5];rfl,rfl⟩
theorem akg {ay:Fr} {E:Env} {h ab:ah} {w:World} (s:bd ay E h w) {t:TypeId} {x k v:V} {X K:Value} (ak:Rel E x X) (aH:Rel E k K) (he:(Gg P t).run x k h=.val v ab):df ay P E w (Instr.mapEntry t X K) v ab:=by
 unfold Gg at he;cases av:a' P t with
 | none=>rw [av] at he;cases he
 | some aR=>
   rw [av] at he;simp only at he;have hu:=fK av w;cases bU:aR.bh<;>rw [bU] at he<;>simp only at he<;>try (cases he;done)
   rename_i cA hz;rw [bU] at hu;cases het:a' P hz with
   | none=>rw [het] at he;cases he
   | some ba=>
     rw [het] at he;simp only at he;cases bn:ba.zero with
     | none=>rw [bn] at he;cases he
     | some z=>
       rw [bn] at he;simp only at he;obtain ⟨u',nu,mx,_⟩:=zX (P:=P) het bn E w;cases p9:jr P cA with
       | true=>
         rw [p9] at he;simp only [cond_true,ym] at he;cases hm:w3 ⟨hs h⟩ z h x k with
         | none=>rw [hm] at he;cases he
         | some r=>
           rw [hm] at he;simp only [a7.val.injEq] at he;obtain ⟨rfl,rfl⟩:=he;exact Uq s hu nu mx ak aH (Ig s p9 K) hm
       | false=>
         rw [p9] at he;simp only [cond_false] at he;cases cO:mb P cA with
         | false=>rw [cO] at he;cases he
         | true=>
           rw [cO] at he;simp only [cond_true,EC] at he;cases aB:nw P cA k with
           | false=>rw [aB] at he;cases he
           | true=>
             rw [aB] at he;simp only [cond_true] at he;cases hm:w3 (structEq P cA) z h x k with
             | none=>rw [hm] at he;cases he
             | some r=>
               rw [hm] at he;simp only [a7.val.injEq] at he;obtain ⟨rfl,rfl⟩:=he;exact Uq s hu nu mx ak aH (Ih cO aB aH) hm
end
section
variable {P:Program}
theorem Sj (n:Nat):∀(l:List Nat),t_ l n=true↔n ∈ l
 | []=>by simp [t_]
 | x::xs=>by
   simp only [t_];cases ae:Nat.beq x n with
   | true=>have:=Nat.eq_of_beq_eq_true ae;subst this;simp
   | false=>
     have ck:x≠n:=fun e=>by subst e;rw [Nat.beq_refl] at ae;cases ae
     simp [Sj n xs,Ne.symm ck]
theorem aee {a:Array Nat} {seen:List Nat} (h:a.toList=seen.reverse) (n:Nat):a.contains n=t_ seen n:=by rw [Bool.eq_iff_iff,Sj,Array.contains_iff_mem,<-Array.mem_toList_iff,h,List.mem_reverse]
theorem T7 {E:Env} {a:Array Nat} {seen:List Nat} (h:a.toList=seen.reverse):∀(ms:List cI) (l:List MapEntry),eE E ms l->eE E (leftOf seen ms) (l.filter fun e=>!a.contains e.born)
 | [],l,aE=>by simp only [eE] at aE;subst aE;rfl
 | m::ms,l,aE=>by
   obtain ⟨e,es,rfl,aa,ad,aJ,bG⟩:=aE;have bq:=T7 h ms es bG;have aC:a.contains e.born=t_ seen m.born:=by rw [aee h,aJ]
   cases ae:t_ seen m.born with
   | true=>
     rw [ae] at aC;rw [List.filter_cons_of_neg (by rw [aC];decide)];simp only [leftOf,ae,cond_true];exact bq
   | false=>
     rw [ae] at aC;rw [List.filter_cons_of_pos (by rw [aC];decide)];simp only [leftOf,ae,cond_false];exact ⟨e,_,rfl,aa,ad,aJ,bq⟩
theorem OV {E:Env} {last:Nat}:∀(ms:List cI) (l:List MapEntry),eE E ms l->l.all (fun e=>decide (e.born>=last))=x6 last ms
 | [],l,aE=>by simp only [eE] at aE;subst aE;rfl
 | m::ms,l,aE=>by
   obtain ⟨e,es,rfl,aa,ad,aJ,bG⟩:=aE;simp only [x6,List.all_cons,OV ms es bG,aJ];cases ae:Nat.ble last m.born with
   | true=>rw [Nat.ble_eq] at ae;simp [ae]
   | false=>
     have:¬last<=m.born:=by rw [<-Nat.ble_eq,ae];simp
     simp [this]
theorem Pn {E:Env} {n:Nat}:∀(ms:List cI) (l:List MapEntry) (m:cI),eE E ms l->A3 n ms=some m->∃e,l.find? (fun e=>e.born == n)=some e/\Rel E m.k e.key/\Rel E m.v e.val
 | [],l,m,aE,h=>by cases h
 | x::xs,l,m,aE,h=>by
   obtain ⟨e,es,rfl,aa,ad,aJ,bG⟩:=aE;simp only [A3] at h;cases ae:Nat.beq x.born n with
   | true=>
     rw [ae] at h;simp only [cond_true,Option.some.injEq] at h;subst h;have:=Nat.eq_of_beq_eq_true ae;exact ⟨e,by simp [List.find?_cons,aJ,this],aa,ad⟩
   | false=>
     rw [ae] at h;simp only [cond_false] at h;obtain ⟨cX,g1,g2⟩:=Pn xs es m bG h;have ck:x.born≠n:=fun e=>by rw [e,Nat.beq_refl] at ae;cases ae
     exact ⟨cX,by simp [List.find?_cons,aJ,ck,g1],g2⟩
theorem L2 {k:cd} {f:List cI->Nat->a7} {v:V} {ab:ah} (h:k.jZ .fail f=.val v ab):∃es clock,k=.mp es clock/\f es clock=.val v ab:=by
 cases k<;>simp only [cd.jZ] at h<;>first
  | (cases h;done)
  | exact ⟨_,_,rfl,h⟩
theorem U9 {v:V} {f:aQ->Nat->a7} {r:V} {ab:ah} (h:v.j0 .fail f=.val r ab):∃b off,v=.ptr b off/\f b off=.val r ab:=by
 cases v<;>simp only [V.j0] at h<;>first
  | (cases h;done)
  | exact ⟨_,_,rfl,h⟩
theorem ama {ay:Fr} {E:Env} {h ab:ah} {w:World} (s:bd ay E h w) {t cA hz:TypeId} (hu:(underlying t).run P w=.ok (.map cA hz) w) {x v:V} {X:Value} (ak:Rel E x X) (he:rangeMap x h=.val v ab):df ay P E w (Instr.range t X) v ab:=by
 have dE:=s.fresh h.next (Nat.le_refl _)
 have dT:E.put (aj h.next) ⟨w.heap.size,0,0⟩ (aj h.next)=some ⟨w.heap.size,0,0⟩:=by unfold Env.put;rw [if_pos rfl]
 unfold rangeMap at he
 split at he
 . simp only [a7.val.injEq] at he;obtain ⟨rfl,rfl⟩:=he;simp only [Rel] at ak;subst ak;refine ⟨.pointer (some ⟨w.heap.size,0,none⟩),{w with heap:=w.heap.push (.mapIter none 0 #[] 0)},_,?_,Env.l1 (p:=⟨w.heap.size,0,0⟩) dE,?_,s.alloc 0 ?_⟩
   . simp only [Instr.range,Sem.run_bind,hu,Result.andThen_ok,Sem.run_pure,run_newObj]
   . simp only [Rel];exact ⟨_,dT,by simp⟩
   . exact ⟨_,none,#[],dT,s.frame.size,rfl,by simp,rfl,rfl⟩
 . rename_i c;obtain ⟨es,clock,aB,he⟩:=L2 he;simp only [a7.val.injEq] at he;obtain ⟨rfl,rfl⟩:=he;simp only [Rel] at ak;obtain ⟨p,af,rfl⟩:=ak;have ae:=s.at af;rw [aB] at ae;obtain ⟨q,a,aa,da,aJ,bG⟩:=ae;rw [af] at aa;cases aa;have fe:(getObj p.aN).run P w=.ok (.map a clock) w:=by simp only [getObj,Sem.run,aJ]
   have hle:E.le (E.put (aj h.next) ⟨w.heap.size,0,0⟩):=Env.l1 dE;refine ⟨.pointer (some ⟨w.heap.size,0,none⟩),{w with heap:=w.heap.push (.mapIter (some p.aN) clock #[] clock)},_,?_,hle,?_,s.alloc 0 ?_⟩
   . simp only [Instr.range,Sem.run_bind,hu,Result.andThen_ok,Sem.run_pure,fe,run_newObj]
   . simp only [Rel];exact ⟨_,dT,by simp⟩
   . exact ⟨_,some p.aN,#[],dT,s.frame.size,rfl,by simp,rfl,p,hle _ _ af,rfl⟩
 . cases he
theorem akv {ay:Fr} {E:Env} {h ab:ah} {w:World} (s:bd ay E h w) {x v:V} {X:Value} {ty:TypeId} (ak:Rel E x X) (he:hf x h=.val v ab):df ay P E w (Instr.next X false ty) v ab:=by
 unfold hf at he;obtain ⟨b,off,rfl,aa⟩:=U9 he;clear he;have ae:=s.at (p:=_) (by simp only [Rel] at ak;exact ak.choose_spec.1);cases aB:h.get b<;>rw [aB] at aa<;>simp only at aa<;>try (cases aa;done)
 rename_i src since seen last;rw [aB] at ae;cases aW:Nat.beq off 0 with
 | false=>rw [aW] at aa;cases aa
 | true=>
 rw [aW] at aa;simp only [cond_true] at aa;have aW:=Nat.eq_of_beq_eq_true aW;subst aW;obtain ⟨p,m,a,af,da,og,bl,a1,j_⟩:=ae;simp only [Rel] at ak;obtain ⟨q,aC,rfl⟩:=ak;rw [af] at aC;cases aC;have fe:(getObj p.aN).run P w=.ok (.mapIter m since a last) w:=by simp only [getObj,Sem.run,bl]
 have over:Rel E (.tuple [.bool false]) (.tuple #[.bool false]):=by simp only [Rel,bk];exact ⟨_,rfl,_,_,rfl,rfl,rfl⟩
 cases src with
 | none=>
   simp only [vp] at j_;subst j_;simp only [a7.val.injEq] at aa;obtain ⟨rfl,rfl⟩:=aa;refine df.plain (Z:=.tuple #[.bool false]) s ?_ over;simp only [Instr.next,og,Sem.run_bind,fe,Result.andThen_ok,Sem.run_pure]
 | some c=>
   simp only [vp] at j_;obtain ⟨zL,p8,rfl⟩:=j_;simp only at aa;obtain ⟨es,clock,Kg,aa⟩:=L2 aa;have ub:=s.at p8;rw [Kg] at ub;obtain ⟨q,nB,g1,_,g3,g4⟩:=ub;rw [p8] at g1;cases g1;have Fh:(getObj zL.aN).run P w=.ok (.map nB clock) w:=by simp only [getObj,Sem.run,g3]
   cases aD:(!seen.isEmpty&&(!es.isEmpty&&x6 last es)) with
   | true=>rw [aD] at aa;cases aa
   | false=>
     rw [aD] at aa;simp only [cond_false] at aa;have aP:a.isEmpty=seen.isEmpty:=by
      have:a.toList.isEmpty=seen.reverse.isEmpty:=by rw [a1]
      simpa using this
     have bf:nB.isEmpty=es.isEmpty:=by
      cases es with
      | nil=>simp only [eE] at g4;have:nB=#[]:=Array.toList_inj.1 g4
             simp [this]
      | cons y cV=>obtain ⟨e,l,aA,_⟩:=g4;have:nB.toList.isEmpty=false:=by rw [aA];rfl
                   simpa using this
     have c4:nB.all (fun e=>decide (e.born>=last))=x6 last es:=by rw [<-OV es _ g4,Array.all_toList]
     have Ss:(!a.isEmpty&&!nB.isEmpty&&nB.all (fun e=>decide (e.born>=last)))=false:=by rw [aP,bf,c4,Bool.and_assoc];exact aD
     have BD:=T7 (E:=E) a1 es _ g4;have Sx:(nB.filter fun e=>!a.contains e.born).toList=nB.toList.filter fun e=>!a.contains e.born:=by simp
     cases aA:leftOf seen es with
     | nil=>
       rw [aA] at aa BD;simp only [LQ,a7.val.injEq] at aa;obtain ⟨rfl,rfl⟩:=aa;simp only [eE] at BD;have od:(nB.filter fun e=>!a.contains e.born)=#[]:=by apply Array.toList_inj.1;rw [Sx,BD]
       refine df.plain (Z:=.tuple #[.bool false]) s ?_ over;simp only [Instr.next,og,Sem.run_bind,fe,Result.andThen_ok,Fh,Ss,Bool.false_eq_true,if_false,od,Sem.run_pure];simp [choose,Sem.run,Question.forced]
     | cons y cV=>
       rw [aA] at aa BD;cases cV with
       | cons _ _=>cases aa
       | nil=>
         simp only [LQ] at aa;cases aO:Nat.blt y.born since with
         | false=>rw [aO] at aa;cases aa
         | true=>
           rw [aO] at aa;simp only [cond_true,a7.val.injEq] at aa;obtain ⟨rfl,rfl⟩:=aa;rw [Nat.blt_eq] at aO;obtain ⟨e,r,aE,bz,bx,cU,dr⟩:=BD;simp only [eE] at dr;subst dr;have od:(nB.filter fun e=>!a.contains e.born)=#[e]:=by apply Array.toList_inj.1;rw [Sx,aE]
           rw [<-cU] at aO ⊢
           let cj:Obj:=.mapIter (some zL.aN) since (a.push e.born) clock
           let an:World:={w with heap:=w.heap.setIfInBounds p.aN cj}
           have lP:=(Array.getElem?_eq_some_iff.1 bl).1;have sH:(setObj p.aN cj).run P w=.ok () an:=by simp only [setObj,Sem.run,bl];rfl
           have ug:¬since<=e.born:=by omega
           refine ⟨.tuple #[.bool true,e.key,e.val],an,E,?_,Env.le.refl E,?_,s.set (p:=p) (by rw [aB];rfl) af da (by simp [an]) (fun j aU=>?_) rfl rfl rfl (fun _ _ _ e=>by cases e) ?_⟩
           . simp only [Instr.next,og,Sem.run_bind,fe,Result.andThen_ok,Fh,Ss,Bool.false_eq_true,if_false,od,Sem.run_pure];have aa:(#[e]:Array MapEntry).filter (fun x=>decide (x.born<since))=#[e]:=by simp [aO]
             have ad:(#[e]:Array MapEntry).filter (fun x=>decide (x.born>=since))=#[]:=by simp [aO]
             have ml:(choose (.mapNext 1)).run P w=.ok 0 w:=by simp [choose,Sem.run,Question.forced]
             simp only [aa,ad];simp [ml];change ((setObj p.aN cj).run P w).andThen _=_;rw [sH];rfl
           . simp only [Rel,bk];exact ⟨_,rfl,_,_,rfl,rfl,_,_,rfl,bz,_,_,rfl,bx,rfl⟩
           . simp only [an,Array.getElem?_setIfInBounds];rw [if_neg (fun e=>aU e.symm)]
           . exact ⟨p,some zL.aN,a.push e.born,af,da,og,by simp [an,lP,cj],by simp [a1],zL,p8,rfl⟩
theorem acE {ay:Fr} {E:Env} {h ab:ah} {w:World} (s:bd ay E h w) {x v:V} {X:Value} (ak:Rel E x X) (he:Be x h=.val v ab):df ay P E w (Instr.entry X) v ab:=by
 unfold Be at he;obtain ⟨b,off,rfl,aa⟩:=U9 he;clear he;have ae:=s.at (p:=_) (by simp only [Rel] at ak;exact ak.choose_spec.1);cases aB:h.get b<;>rw [aB] at aa<;>simp only at aa<;>try (cases aa;done)
 rename_i src since seen last;rw [aB] at ae;cases aW:Nat.beq off 0 with
 | false=>rw [aW] at aa;cases aa
 | true=>
 rw [aW] at aa;simp only [cond_true] at aa;have aW:=Nat.eq_of_beq_eq_true aW;subst aW;obtain ⟨p,m,a,af,da,og,bl,a1,j_⟩:=ae;simp only [Rel] at ak;obtain ⟨q,aC,rfl⟩:=ak;rw [af] at aC;cases aC;have fe:(getObj p.aN).run P w=.ok (.mapIter m since a last) w:=by simp only [getObj,Sem.run,bl]
 cases src with
 | none=>cases aa
 | some c=>
   simp only [vp] at j_;obtain ⟨zL,p8,rfl⟩:=j_;simp only at aa;cases seen with
   | nil=>cases aa
   | cons n d_=>
   simp only at aa;obtain ⟨es,clock,Kg,aa⟩:=L2 aa;have ub:=s.at p8;rw [Kg] at ub;obtain ⟨q,nB,g1,_,g3,g4⟩:=ub;rw [p8] at g1;cases g1;have Fh:(getObj zL.aN).run P w=.ok (.map nB clock) w:=by simp only [getObj,Sem.run,g3]
   rename_i adU _;clear adU;cases kL:Nat.beq clock last with
   | false=>rw [kL] at aa;cases aa
   | true=>
     rw [kL] at aa;simp only [cond_true] at aa;have:=Nat.eq_of_beq_eq_true kL;subst this;cases J1:A3 n es with
     | none=>rw [J1] at aa;cases aa
     | some y=>
       rw [J1] at aa;simp only [a7.val.injEq] at aa;obtain ⟨rfl,rfl⟩:=aa;obtain ⟨e,f1,f2,f3⟩:=Pn es _ y g4 J1;have aek:a.back? =some n:=by
        have:a.toList.getLast? =some n:=by rw [a1];simp
        simpa using this
       have uc:nB.find? (fun e=>e.born == n)=some e:=by rw [<-f1];simp
       refine df.plain (Z:=.tuple #[e.key,e.val]) s ?_ ?_
       . simp only [Instr.entry,og,Sem.run_bind,fe,Result.andThen_ok,aek,Fh,bne_self_eq_false,Bool.false_eq_true,if_false,uc,Sem.run_pure]
       . simp only [Rel,bk];exact ⟨_,rfl,_,_,rfl,f2,_,_,rfl,f3,rfl⟩
end
section
variable {P:Program}
theorem Zt {ay:Fr} {E:Env} {h ab:ah} {w:World} (s:bd ay E h w) {t u e:TypeId} {size:Nat} (afw:1<=size) {x v:V} {X Y:Value} {ty:TypeId} {n:Nat} {new:List V} {l:List Value}
 (aA:bk E new l) (fz:new.length=n * size) (hC:n<=top)
 (fy:∀(an:World) (A:Option Addr) (c9 fL:Nat),c9+n<=fL->(∀a,A=some a->(storeCells (a.add (c9 * size)) l).run P w=.ok () an)->(A=none->an=w)->
   (Builtin.append_ #[t,u] ty #[.slice A c9 fL,Y]).run P w=.ok (.slice A (c9+n) fL) an)
 (sD:∀(A:Option Addr) (c9 fL:Nat) (bF:List Value),(∀an:World,an.heap=w.heap->(Builtin.firstCells size c9 (.slice A c9 fL)).run P an=.ok bF.toArray an)->¬c9+n<=fL->c9+n<=top->bF.length=c9 * size->l.length=n * size->
   ∃cap rest an,c9+n<=cap/\cap * size<=((bF++l).toArray++rest).size/\
   (Builtin.append_ #[t,u] ty #[.slice A c9 fL,Y]).run P w=.ok (.slice (some ⟨w.heap.size,0,none⟩) (c9+n) cap) an/\
   an.heap=w.heap.push (.cells ((bF++l).toArray++rest) e)/\an.os=w.os/\an.tape=w.tape/\an.output=w.output)
 (he:D9 size n new x h=.val v ab) (ak:Rel E x X):df ay P E w (Builtin.append_ #[t,u] ty #[X,Y]) v ab:=by
 have p4:l.length=n * size:=by rw [aA.length,fz]
 unfold D9 at he;cases x<;>simp only at he<;>try (cases he;done)
 . -- a slice of known capacity
   rename_i b off len cap;simp only [Rel] at ak;obtain ⟨p,af,sy,rfl⟩:=ak;simp only [x8] at he;cases ff:Nat.ble (len+n) cap with
   | true=>
     rw [ff] at he;simp only [cond_true] at he;rw [Nat.ble_eq] at ff;cases lh:lay h b (off+len * size) new with
     | none=>rw [lh] at he;cases he
     | some aa=>
     rw [lh] at he;simp only [a7.val.injEq] at he;obtain ⟨rfl,rfl⟩:=he;obtain ⟨an,cO,iJ⟩:=zn (P:=P) s aA lh af;refine ⟨_,an,E,fy an _ _ _ ff (fun a a1=>?_) (fun a1=>by cases a1),Env.le.refl E,?_,iJ⟩
     . cases a1;rw [add_eq,Nat.add_assoc];exact cO
     . simp only [Rel];exact ⟨p,af,ff,rfl⟩
   | false=>
     rw [ff] at he;simp only [cond_false] at he;have KR:¬len+n<=cap:=by rw [<-Nat.ble_eq,ff];simp
     obtain ⟨ae,he⟩:=jJ he;simp only [Bool.and_eq_true,Nat.ble_eq] at ae;cases hold:pF h size b off len with
     | none=>rw [hold] at he;cases he
     | some bF=>
     rw [hold] at he;simp only at he;cases gD:kc h (bF++new) size false with
     | none=>rw [gD] at he;cases he
     | some aa=>
     rw [gD] at he;simp only [a7.val.injEq] at he;obtain ⟨rfl,rfl⟩:=he;obtain ⟨q,bC,aC,ey,sC,h9⟩:=z6 (P:=P) s ⟨p,af⟩ hold;rw [af] at aC;cases aC;obtain ⟨c,rest,an,bz,bx,cU,dr,mB,mC,qe⟩:=sD (some ⟨p.aN,p.base+off,none⟩) (len) (cap) _
      (fun an hw=>by simp only [Builtin.firstCells];exact h9 an hw) KR ae.1 (by rw [ey.length,sC]) p4
     obtain ⟨ax,g1,g2,g3⟩:=w7 (an:=an) (b5:=(0,0)) s (ey.append aA) gD bx (.inr (Nat.le_refl _)) (fun _=>rfl) dr mB mC qe;refine ⟨_,an,ax,cU,g1,?_,g3⟩;simp only [Rel];exact ⟨_,g2,by simp only;omega,by simp⟩
 . -- one that was appended to
   rename_i b off len idx;have B3:=ak;simp only [Rel] at ak;obtain ⟨p,af,SA,rfl⟩:=ak;simp only [x7] at he;cases jn:Nat.beq n 0 with
   | true=>
     rw [jn] at he;simp only [cond_true] at he;cases he;rw [Nat.beq_eq] at jn;subst jn;have p3:l=[]:=by cases l with | nil=>rfl | cons _ _=>simp at p4
     subst p3;refine ⟨_,w,E,fy w _ _ _ (by omega) (fun a _=>rfl) (fun a1=>by cases a1),Env.le.refl E,?_,s⟩;simpa using B3
   | false=>
     rw [jn] at he;simp only [cond_false] at he;have q3:=s.at af;cases aB:h.get b with
     | dead=>rw [aB] at he;cases he
     | view _ _=>rw [aB] at he;cases he
     | iter _ _=>rw [aB] at he;cases he
     | mp _ _=>rw [aB] at he;cases he
     | dA _=>rw [aB] at he;cases he
     | f_=>rw [aB] at he;cases he
     | jW _=>rw [aB] at he;cases he
     | jV _ _ _ _=>rw [aB] at he;cases he
     | cells N cs cQ st=>
       rw [aB] at he q3;simp only [cd.on] at he;obtain ⟨ae,he⟩:=jJ he;simp only [Bool.and_eq_true,Nat.ble_eq,Nat.beq_eq] at ae;obtain ⟨⟨J9,KF,KH⟩,BK⟩:=ae;cases hold:pF h size b off len with
       | none=>rw [hold] at he;cases he
       | some bF=>
       rw [hold] at he;simp only at he;cases gD:kc (h.set b .dead) (bF++new) size st with
       | none=>rw [gD] at he;cases he
       | some aa=>
       rw [gD] at he;simp only [a7.val.injEq] at he;obtain ⟨rfl,rfl⟩:=he;obtain ⟨q,bC,aC,ey,sC,h9⟩:=z6 (P:=P) s ⟨p,af⟩ hold;rw [af] at aC;cases aC;obtain ⟨bJ,q,c,el,b5,aP,da,bl,q6,cO,lK,bK⟩:=q3;rw [af] at aP;cases aP;have BN:=afw;have lK:=lK (by omega);rw [J9] at lK;have C3:=s.kill af;by_cases ff:len+n<=p.cap-idx
       . -- in place
         have aO:=(Array.getElem?_eq_some_iff.1 bl).1;have aeZ:(idx+len+n) * size<=p.cap * size:=Nat.mul_le_mul_right _ (by omega);have hbound:p.base+off+len * size+0+l.length<=c.size:=by
          rw [p4,BK];have:(idx+len+n) * size=idx * size+len * size+n * size:=by rw [Nat.add_mul,Nat.add_mul]
          omega
         have BX:=G1 (P:=P) aO el b5 (p.base+off+len * size) l c 0 (GA KH aA) hbound q6;rw [NA bl,Nat.add_zero] at BX;have KT:=fy (lu w p.aN (qi c (p.base+off+len * size) l) el b5) (some ⟨p.aN,p.base+off,none⟩) _ _ ff
          (fun a a1=>by cases a1;rw [add_eq];exact BX) (fun a1=>by cases a1)
         unfold kc at gD;obtain ⟨aD,gD⟩:=eG gD;simp only [Bool.and_eq_true,Nat.ble_eq] at aD;simp only [Option.some.injEq] at gD;subst gD;have dE:=s.fresh h.next (Nat.le_refl _)
         have hle:E.le (E.put (aj h.next) ⟨p.aN,p.base+off,p.cap-idx⟩):=Env.l1 dE;have dT:E.put (aj h.next) ⟨p.aN,p.base+off,p.cap-idx⟩ (aj h.next)=some ⟨p.aN,p.base+off,p.cap-idx⟩:=by unfold Env.put;rw [if_pos rfl]
         refine ⟨_,_,_,KT,hle,?_,bd.add (p:=⟨p.aN,p.base+off,p.cap-idx⟩) C3 (by rw [NB];exact Nat.le_refl _) (fun j _ aU=>Nz _ _ _ aU) da (fun bL dV hY oo heq=>?_) rfl rfl rfl (fun _ _ _ e=>by injection e with _ _ c4;omega) ?_⟩
         . simp only [Rel];exact ⟨_,dT,by simp only;omega,by simp⟩
         . rw [ah.dC] at hY;by_cases iG:b=bL
           . rw [if_pos iG] at hY;cases hY
           . rw [if_neg iG] at hY;exact iG (s.inj b bL p dV (by rw [aB];rfl) hY af oo heq.symm)
         . have Fs:(bF++new).length=(len+n) * size:=by rw [List.length_append,sC,fz,Nat.add_mul]
           have aeK:(len+n) * size=len * size+n * size:=Nat.add_mul _ _ _;refine ⟨aD.1,_,_,el,b5,dT,da,Dg aO _ _ _,by rw [rn];exact q6,cO,fun _=>?_,?_⟩
           . rw [rn];simp only;have:idx * size + (p.cap-idx) * size=p.cap * size:=by rw [<-Nat.add_mul];congr 1;omega
             omega
           . refine ⟨by rw [rn,Fs,Nat.add_mul];simp only;omega,fun i y ao aZ=>?_⟩;rw [CW _ _ _ _ (by omega) (by omega),if_pos (by omega),Nat.sub_zero];rw [F5 _ _ _ _ (by omega)] at aZ;simp only at aZ;by_cases cz:i<len * size
             . rw [if_neg (by omega)] at aZ;rw [List.getElem?_append_left (by omega)];have fe:=h9 w rfl;have KP:=run_loadCells (P:=P) (w:=w) (off:=p.base+off) (n:=len * size) bl (by omega);rw [KP] at fe;simp only [Result.ok.injEq,and_true] at fe;have BE:bC=(c.toList.drop (p.base+off)).take (len * size):=by
                have:=congrArg Array.toList fe;simpa using this.symm
               obtain ⟨xL,iK,aE⟩:=ey.get i bF[i] (List.getElem?_eq_getElem (by omega));rw [List.getElem?_eq_getElem (by omega)];rw [BE] at iK;rw [List.getElem?_take_of_lt (by omega),List.getElem?_drop] at iK;simp only [Array.getElem?_toList] at iK;rw [aZ] at iK;cases iK;exact Rel.mono hle _ _ aE
             . rw [if_pos (by omega)] at aZ;rw [List.getElem?_append_right (by omega)];have c4:p.base+off+i - (p.base+off+len * size)=i-bF.length:=by omega
               rw [c4] at aZ;have BG:i-bF.length<new.length:=by omega
               obtain ⟨xL,iK,aE⟩:=aA.get (i-bF.length) new[i-bF.length] (List.getElem?_eq_getElem BG);rw [aZ] at iK;cases iK;rw [List.getElem?_eq_getElem BG];exact Rel.mono hle _ _ aE
       . -- elsewhere
         obtain ⟨bX,rest,an,bz,bx,cU,dr,mB,mC,qe⟩:=sD (some ⟨p.aN,p.base+off,none⟩) (len) (p.cap-idx) _
          (fun an hw=>by simp only [Builtin.firstCells];exact h9 an hw) ff KF (by rw [ey.length,sC]) p4
         obtain ⟨ax,g1,g2,g3⟩:=w7 (an:=an) (b5:=(0,0)) C3 (ey.append aA) gD bx (.inr (Nat.le_refl _)) (fun _=>rfl) dr mB mC qe;refine ⟨_,an,ax,cU,g1,?_,g3⟩;simp only [Rel];exact ⟨_,g2,by simp only;omega,by simp⟩
 . -- nil
   simp only [Rel] at ak;subst ak;simp only [vw] at he;cases jn:Nat.beq n 0 with
   | true=>
     rw [jn] at he;simp only [cond_true] at he;cases he;rw [Nat.beq_eq] at jn;subst jn;exact df.plain s (fy w _ _ _ (by omega) (fun a a1=>by cases a1) (fun _=>rfl)) (by simp [Rel])
   | false=>
     rw [jn] at he;simp only [cond_false] at he;have BJ:¬n=0:=by intro e;subst e;simp at jn
     cases gD:kc h new size false with
     | none=>rw [gD] at he;cases he
     | some aa=>
     rw [gD] at he;simp only [a7.val.injEq] at he;obtain ⟨rfl,rfl⟩:=he;obtain ⟨c,rest,an,bz,bx,cU,dr,mB,mC,qe⟩:=sD (none) (0) (0) []
      (fun an _=>by simp [Builtin.firstCells]) (by omega) (by omega) (by simp) p4
     obtain ⟨ax,g1,g2,g3⟩:=w7 (an:=an) (b5:=(0,0)) s aA gD bx (.inr (Nat.le_refl _)) (fun _=>rfl) dr mB mC qe;refine ⟨_,an,ax,cU,g1,?_,g3⟩;simp only [Rel];exact ⟨_,g2,by simp only;omega,by simp⟩
structure H_ (P:Program) (t u e:TypeId) (size bytes:Nat) (k:IntKind) (z:Value):Prop where
 ut:∀w,(underlying t).run P w=.ok (.slice e) w
 th:∀w,(underlying u).run P w=.ok (.int k) w
 oL:∀w,(sizeOf e).run P w=.ok size w
 Ek:∀w,∃i,(typeInfo e).run P w=.ok i w/\i.bytes=bytes
 Ah:∀w,(zeroValue e).run P w=.ok z w
 fv:z.cells.size=size
 pos:1<=size
 small:bytes<=4096
theorem XP (c:Array Value):Builtin.zeroCells c 0=#[]:=by simp [Builtin.zeroCells]
theorem amz {t u e:TypeId} {size bytes:Nat} {k:IntKind} {z:Value} (H:H_ P t u e size bytes k z) {n:Nat} (aV:n<=100000) {ty:TypeId} {w an:World} {A:Option Addr} {c9 fL:Nat} (ff:c9+n<=fL)
 (cO:∀a,A=some a->(storeCells (a.add (c9 * size)) (Builtin.zeroCells z.cells n).toList).run P w=.ok () an) (dE:A=none->an=w):
 (Builtin.append_ #[t,u] ty #[.slice A c9 fL,.int .i64 n]).run P w=.ok (.slice A (c9+n) fL) an:=by
 have hw:IntKind.i64.wrap (n:Int)=n:=by unfold IntKind.wrap;simp [IntKind.bits,IntKind.signed];omega
 obtain ⟨i,ao,q9⟩:=H.Ek w;have tX:¬(281474976710656 < (n:Int) * (i.bytes:Int)):=by rw [q9];have aa:n * bytes<=100000 * 4096:=Nat.mul_le_mul aV H.small;have ad:((n * bytes:Nat):Int)=(n:Int) * (bytes:Int):=Int.natCast_mul _ _;omega
 have Fx:¬((n:Int)<0):=by omega
 have cq:size≠0:=by have:=H.pos;omega
 have a1:∀w,(asInt (.int .i64 (n:Int))).run P w=.ok (n:Int) w:=fun w=>by simp [asInt,asIntOf]
 have E8:∀w,(asInt (.int .i64 0)).run P w=.ok 0 w:=fun w=>by simp [asInt,asIntOf]
 have zc:IntKind.i64.wrap 0=0:=by decide
 cases A with
 | none=>
   have:=dE rfl;subst this;by_cases aW:n=0
   . subst aW;simp [Builtin.append_,H.ut,H.th,H.oL,E8,ao,zc,(show c9<=fL from by omega)]
   . simp [Builtin.append_,H.ut,H.th,H.oL,H.Ah,a1,ao,tX,hw,ff,Fx,cq,aW]
 | some a=>
   have:=cO a rfl;by_cases aW:n=0
   . subst aW;rw [XP] at this;simp [Builtin.append_,H.ut,H.th,H.oL,E8,ao,zc,(show c9<=fL from by omega),this]
   . simp [Builtin.append_,H.ut,H.th,H.oL,H.Ah,a1,ao,tX,hw,ff,Fx,Nat.mul_ne_zero aW cq,this]
theorem amA {t u e:TypeId} {size bytes:Nat} {k:IntKind} {z:Value} (H:H_ P t u e size bytes k z) {n:Nat} (aV:n<=100000) {ty:TypeId} {w:World} (A:Option Addr) (c9 fL:Nat) (bF:List Value)
 (hold:∀an:World,an.heap=w.heap->(Builtin.firstCells size c9 (.slice A c9 fL)).run P an=.ok bF.toArray an) (ff:¬c9+n<=fL) (BW:c9+n<=top) (a6:bF.length=c9 * size) (aA:(Builtin.zeroCells z.cells n).toList.length=n * size):
 ∃cap rest an,c9+n<=cap/\cap * size<=((bF++(Builtin.zeroCells z.cells n).toList).toArray++rest).size/\
  (Builtin.append_ #[t,u] ty #[.slice A c9 fL,.int .i64 n]).run P w=.ok (.slice (some ⟨w.heap.size,0,none⟩) (c9+n) cap) an/\
  an.heap=w.heap.push (.cells ((bF++(Builtin.zeroCells z.cells n).toList).toArray++rest) e)/\an.os=w.os/\an.tape=w.tape/\an.output=w.output:=by
 have hw:IntKind.i64.wrap (n:Int)=n:=by simp only [IntKind.wrap,IntKind.bits,IntKind.signed];simp;omega
 obtain ⟨i,ao,q9⟩:=H.Ek w;have ku:P.info? e=some i:=by
  simp only [typeInfo,Sem.run_bind,run_program,Result.andThen_ok] at ao;cases aC:P.info? e with
  | none=>rw [aC] at ao;simp at ao
  | some j=>rw [aC] at ao;simp at ao;rw [ao]
 have hB:∀an,(typeInfo e).run P an=.ok i an:=fun an=>zW ku an;have agt:¬(281474976710656 < (n:Int) * (i.bytes:Int)):=by rw [q9];have aa:n * bytes<=100000 * 4096:=Nat.mul_le_mul aV H.small;have ad:((n * bytes:Nat):Int)=(n:Int) * (bytes:Int):=Int.natCast_mul _ _;omega
 have tX:¬(281474976710656<Builtin.nextslicecap (c9+n) fL * i.bytes):=by
  have aa:fL<c9+n:=by omega
  have:=growslice_fits (bytes:=i.bytes) aa (by rw [q9];have ad:(c9+n) * bytes<=top * 4096:=Nat.mul_le_mul BW H.small;unfold top at ad;omega);omega
 have iX:¬(9223372036854775807 < ((c9:Int) + (n:Int))):=by unfold top at BW;omega
 have Fx:¬((n:Int)<0):=by omega
 have cq:size≠0:=by have:=H.pos;omega
 have a1:∀w,(asInt (.int .i64 (n:Int))).run P w=.ok (n:Int) w:=fun w=>by simp [asInt,asIntOf]
 have E8:∀w,(asInt (.int .i64 0)).run P w=.ok 0 w:=fun w=>by simp [asInt,asIntOf]
 have zc:IntKind.i64.wrap 0=0:=by decide
 let q:Question:=.appendCap (c9+n) fL e
 let cap:=q.cut (w.tape w.drawn q)
 have lK:c9+n<=cap:=by show c9+n<=(c9+n)+_;omega
 refine ⟨cap,Builtin.zeroCells z.cells (cap - (c9+n)),w.drew.alloc (.cells ((bF++(Builtin.zeroCells z.cells n).toList).toArray++Builtin.zeroCells z.cells (cap - (c9+n))) e),lK,?_,?_,rfl,rfl,rfl,rfl⟩
 . simp only [Array.size_append,List.size_toArray,List.length_append,a6,aA];have:(Builtin.zeroCells z.cells (cap - (c9+n))).size=(cap - (c9+n)) * size:=by simp [Builtin.zeroCells,H.fv]
   rw [this,<-Nat.add_mul,<-Nat.add_mul];exact Nat.mul_le_mul_right _ (by omega)
 . have f2:=hold w.drew rfl;by_cases aW:n=0
   . subst aW;have afI:¬c9<=fL:=by omega
     have aei:¬(9223372036854775807 < (c9:Int)):=by omega
     rw [Nat.add_zero] at tX;simp [Builtin.append_,H.ut,H.th,H.oL,H.Ah,E8,zc,hB,afI,tX,aei,Question.forced,f2,newRow];refine ⟨rfl,?_⟩;have aP:(bF++(Builtin.zeroCells z.cells 0).toList).toArray=bF.toArray:=by rw [XP];simp
     rw [aP];rfl
   . simp [Builtin.append_,H.ut,H.th,H.oL,H.Ah,a1,hw,agt,Fx,Nat.mul_ne_zero aW cq,ff,hB,tX,iX,Question.forced,f2,newRow];refine ⟨rfl,?_⟩;have aP:(bF++(Builtin.zeroCells z.cells n).toList).toArray=bF.toArray++Builtin.zeroCells z.cells n:=by simp
     rw [aP,Array.append_assoc]
end
section
variable {P:Program}
abbrev cw (rd:Option Nat):Fence:={fn:=fun _=>True,depth:=none,alive:=false,round:=rd}
theorem tK {rd:Option Nat} {n:Nat} {f:FuncId} {args:Array Value} {w:World} {R:Ending->World->Prop}:CallsIn (cw rd) n P f args w R↔Calls P f args w R:=callsIn_wide
theorem ML {rd:Option Nat} (n:Nat):(cw rd).room n:=fun _ h=>by simp [cw] at h
abbrev qq (x:Value):List PanicEntry:=[{v:=x,recovered:=false}]
structure hi (P:Program) (call:dQ):Prop where
 fn:∀(ay:Fr) f args h v ab,f≠dy->call f args h=.val v ab->∀E w xs,bk E args xs->bd ay E h w->
  ((∃fn,P.funcs[f]? =some fn/\fn.body.isSome=true)/\Calls P f xs.toArray w fun e an=>∃ax x,e=.returned x/\E.le ax/\Rel ax v x/\bd ay ax ab an)\/
  ∃ax x an,(callFunc f xs.toArray).run P w=.ok (.value x) an/\E.le ax/\Rel ax v x/\bd ay ax ab an
 cP:∀(ay:Fr) f args h v ab,f≠dy->call f args h=.cP v ab->∀E w xs,bk E args xs->bd ay E h w->
  (∃fn,P.funcs[f]? =some fn/\fn.body.isSome=true)/\Calls P f xs.toArray w fun e an=>∃ax x,e=.panicked (qq x)/\E.le ax/\Rel ax v x/\bd ay ax ab an
 XN:∀(ay:Fr) args b h v ab,call dy (args++[.ptr b 0]) h=.val v ab->∀E w xs p,bk E args xs->bd ay E h w->E b=some p->
  ∃f tmps assign body,(Instr.yield p.aN xs.toArray).run P w=.ok (.round p.aN f tmps assign body) w/\
   RoundIn (cw none) 0 P p.aN f tmps assign body w fun e an=>∃ax x,e=.returned x/\E.le ax/\Rel ax v x/\bd ay ax ab an
 XO:∀args h v ab,call dy args h≠.cP v ab
theorem qz {rd:Option Nat} {o:Oper} (nr:∀c,o.op≠.defer c) (ρ:Operand->Value):o.semAt (cw rd).round ρ=execOp ρ o:=Oper.semAt_eq _ ρ o nr
theorem gJ {rd:Option Nat} {o:Oper} {a:Act} {w:World} {ay:Fr} {E:Env} {ab:ah} {v:V} {m:Sem Value} {K:Act->World->Prop} {Q:Exit->Act->World->Prop}
 (ak:execOp a.eval o=(do pure (.value (<-m)))) (g:df ay P E w m v ab) (dO:∀ax x an,E.le ax->Rel ax v x->bd ay ax ab an->K (a.put o.dst x) an) (nr:∀c,o.op≠.defer c:=by intro c h;cases h):
 o.wpIn (cw rd) 0 P a w K Q:=by
 obtain ⟨Z,an,ax,aa,ad,aJ,bG⟩:=g;refine ⟨fun _ _=>trivial,?_⟩;rw [qz nr,ak,Sem.run_bind,aa];exact dO ax Z an ad aJ bG
theorem GH {E:Env} {au:Nat} {r:bI} {a:Act} (k:RegRel0 E au r a):∀l:List (Nat × Operand),r4 E ((uJ l).run r) (l.map fun (i,x)=>(i,a.eval x))
 | []=>rfl
 | (i,x)::l=>by simp only [uJ,List.map,r4];exact ⟨_,_,rfl,dH k x,GH k l⟩
theorem GG {E:Env} {au:Nat} {r:bI} {a:Act} (k:RegRel0 E au r a) (x:Option Operand):ic E ((rF x).run r) (x.map a.eval):=by
 cases x with
 | none=>rfl
 | some x=>simp only [rF,ic,Option.map];exact ⟨_,rfl,dH k x⟩
theorem akZ {v:V} {f:aQ->Nat->a7} {r:V} {h:ah} (he:v.j0 .fail f=.val r h):∃b off,v=.ptr b off/\f b off=.val r h:=by
 cases v<;>simp only [V.j0] at he<;>first
  | (cases he;done)
  | exact ⟨_,_,rfl,he⟩
theorem akx {ay:Fr} {E:Env} {h ab:ah} {w:World} (s:bd ay E h w) {x v:V} {X:Value} {ty:TypeId} (ak:Rel E x X) (he:w9 x h=.val v ab):df ay P E w (Instr.next X true ty) v ab:=by
 unfold w9 at he;obtain ⟨b,off,rfl,aa⟩:=akZ he;have ae:=s.at (p:=_) (by simp only [Rel] at ak;exact ak.choose_spec.1);cases aB:h.get b with
 | dead=>rw [aB] at aa;cases aa
 | view _ _=>rw [aB] at aa;cases aa
 | cells _ _ _ _=>rw [aB] at aa;cases aa
 | mp _ _=>rw [aB] at aa;cases aa
 | dA _=>rw [aB] at aa;cases aa
 | f_=>rw [aB] at aa;cases aa
 | jW _=>rw [aB] at aa;cases aa
 | jV _ _ _ _=>rw [aB] at aa;cases aa
 | iter st pos=>
   rw [aB] at aa ae;simp only at aa;obtain ⟨aW,ad⟩:=jJ aa;rw [Nat.beq_eq] at aW;subst aW;obtain ⟨p,af,da,og,bl⟩:=ae;simp only [Rel] at ak;obtain ⟨q,aC,rfl⟩:=ak;rw [af] at aC;cases aC;have fe:(getObj p.aN).run P w=.ok (.stringIter ⟨⟨st⟩⟩ pos) w:=by simp only [getObj,Sem.run,bl]
   have cq:(⟨⟨st⟩⟩:ByteArray).size=st.length:=rfl;cases aO:Nat.blt pos st.length with
   | true=>
     rw [aO] at ad;simp only [cond_true,a7.val.injEq] at ad;obtain ⟨rfl,rfl⟩:=ad;rw [Nat.blt_eq] at aO
     let cj:Obj:=.stringIter ⟨⟨st⟩⟩ (pos + (decodeL st pos).2)
     let an:World:={w with heap:=w.heap.setIfInBounds p.aN cj}
     have lP:=(Array.getElem?_eq_some_iff.1 bl).1;have sH:(setObj p.aN cj).run P w=.ok () an:=by simp only [setObj,Sem.run,bl];rfl
     refine ⟨.tuple #[.bool true,goInt pos,.int .i32 (decodeL st pos).1],an,E,?_,Env.le.refl E,?_,s.set (p:=p) (by rw [aB];rfl) af da (by simp [an]) (fun j aU=>?_) rfl rfl rfl (fun _ _ _ e=>by cases e) ?_⟩
     . simp only [Instr.next,og,Sem.run_bind,fe,Result.andThen_ok,cq,if_pos aO];have:(Utf8.decode (⟨⟨st⟩⟩:ByteArray) pos)=decodeL st pos:=rfl;simp only [this];rw [sH];rfl
     . simp only [Rel,bk];exact ⟨_,rfl,_,_,rfl,rfl,_,_,rfl,rfl,_,_,rfl,rfl,rfl⟩
     . simp only [an,Array.getElem?_setIfInBounds];rw [if_neg (fun e=>aU e.symm)]
     . exact ⟨p,af,da,og,by simp [an,lP,cj]⟩
   | false=>
     rw [aO] at ad;simp only [cond_false,a7.val.injEq] at ad;obtain ⟨rfl,rfl⟩:=ad;have j9:¬pos<st.length:=by rw [<-Nat.blt_eq,aO];simp
     refine df.plain (Z:=.tuple #[.bool false]) s ?_ ?_
     . simp only [Instr.next,og,Sem.run_bind,fe,Result.andThen_ok,cq,if_neg j9,Sem.run_pure]
     . simp only [Rel,bk];exact ⟨_,rfl,_,_,rfl,rfl,rfl⟩
theorem al_ {ay:Fr} {E:Env} {h ab:ah} {w:World} (s:bd ay E h w) {t:TypeId} {x v:V} {X:Value} (ak:Rel E x X) (he:(GQ P t).run x h=.val v ab):df ay P E w (Instr.range t X) v ab:=by
 unfold GQ at he;cases av:a' P t with
 | none=>rw [av] at he;cases he
 | some aR=>
   rw [av] at he;simp only at he;have hu:=fK av;cases bU:aR.bh with
   | string=>
     rw [bU] at he hu;simp only at he;cases x<;>simp only at he<;>try (cases he;done)
     rename_i st;simp only [a7.val.injEq] at he;obtain ⟨rfl,rfl⟩:=he;have:=ak.te;subst this;have dE:=s.fresh h.next (Nat.le_refl _)
     have dT:E.put (aj h.next) ⟨w.heap.size,0,0⟩ (aj h.next)=some ⟨w.heap.size,0,0⟩:=by unfold Env.put;rw [if_pos rfl]
     refine ⟨.pointer (some ⟨w.heap.size,0,none⟩),{w with heap:=w.heap.push (.stringIter ⟨⟨st⟩⟩ 0)},_,?_,Env.l1 (p:=⟨w.heap.size,0,0⟩) dE,?_,s.alloc 0 ?_⟩
     . simp only [Instr.range,Sem.run_bind,hu,Result.andThen_ok,Sem.run_pure,run_newObj]
     . simp only [Rel];exact ⟨_,dT,by simp⟩
     . exact ⟨_,dT,s.frame.size,rfl,by simp⟩
   | map cA hz=>
     rw [bU] at he hu;exact ama s (hu w) ak he
   | _=>rw [bU] at he;cases he
theorem Zq {ay:Fr} {E:Env} {h ab:ah} {w:World} (s:bd ay E h w) {t u:TypeId} {x y v:V} {X Y:Value} {ty:TypeId}
 (he:(D8 P t u).run x y h=.val v ab) (ak:Rel E x X) (aZ:Rel E y Y):df ay P E w (Builtin.append_ #[t,u] ty #[X,Y]) v ab:=by
 unfold D8 at he;cases av:a' P t with
 | none=>rw [av] at he;cases he
 | some aR=>
   cases hu:a' P u with
   | none=>rw [av,hu] at he;cases he
   | some tg=>
     rw [av,hu] at he;simp only at he;have main:(∀k,tg.bh≠.int k)->(match aR.bh with
      | .slice e=>match a' P e with
        | none=>(⟨fun _ _ _=>.fail⟩:Ai)
        | some ba=>match ba.zero with
          | none=>⟨fun _ _ _=>.fail⟩
          | some z=>bif Nat.ble 1 ba.size&&Nat.ble ba.bytes 4096&&Nat.beq z.cells.length ba.size then ⟨ij ba.size⟩ else ⟨fun _ _ _=>.fail⟩
      | _=>⟨fun _ _ _=>.fail⟩).run x y h=.val v ab->df ay P E w (Builtin.append_ #[t,u] ty #[X,Y]) v ab:=by
      intro ra he;cases bU:aR.bh with
      | slice e=>
        rw [bU] at he;simp only at he;cases cu:a' P e with
        | none=>rw [cu] at he;cases he
        | some ba=>
          rw [cu] at he;simp only at he;cases bn:ba.zero with
          | none=>rw [bn] at he;cases he
          | some z=>
            rw [bn] at he;simp only at he;cases aD:(Nat.ble 1 ba.size&&Nat.ble ba.bytes 4096&&Nat.beq z.cells.length ba.size) with
            | false=>rw [aD] at he;cases he
            | true=>
              rw [aD] at he;simp only [cond_true] at he;simp only [Bool.and_eq_true,Nat.ble_eq,Nat.beq_eq] at aD;obtain ⟨lx,wK,_,pe⟩:=tm (P:=P) (E:=E) cu bn w;refine Zs s ⟨fun w=>?_,⟨tg.bh,fun w=>fK hu w,ra⟩,fun w=>kg cu w,fun w=>GZ cu w,⟨lx,wK,by rw [pe];exact aD.2⟩,aD.1.1,aD.1.2⟩ he ak aZ;have:=fK av w;rw [bU] at this;exact this
      | _=>rw [bU] at he;cases he
     cases za:tg.bh with
     | int k=>
       rw [za] at he;simp only at he;cases bU:aR.bh with
       | slice e=>
         rw [bU] at he;simp only at he;cases cu:a' P e with
         | none=>rw [cu] at he;cases he
         | some ba=>
           rw [cu] at he;simp only at he;cases bn:ba.zero with
           | none=>rw [bn] at he;cases he
           | some z=>
             rw [bn] at he;simp only at he;cases aD:(Nat.ble 1 ba.size&&Nat.ble ba.bytes 4096&&Nat.beq z.cells.length ba.size) with
             | false=>rw [aD] at he;cases he
             | true=>
               rw [aD] at he;simp only [cond_true] at he;simp only [Bool.and_eq_true,Nat.ble_eq,Nat.beq_eq] at aD;obtain ⟨lx,wK,B7,pe⟩:=tm (P:=P) (E:=E) cu bn w;have zb:∀w,(underlying t).run P w=.ok (.slice e) w:=fun w=>by have:=fK av w;rw [bU] at this;exact this
               have KY:∀w,(underlying u).run P w=.ok (.int k) w:=fun w=>by have:=fK hu w;rw [za] at this;exact this
               have H:H_ P t u e ba.size ba.bytes k lx:=⟨zb,KY,fun w=>kg cu w,fun w=>GZ cu w,wK,by rw [pe];exact aD.2,aD.1.1,aD.1.2⟩;unfold x9 at he
               split at he
               case h_2=>cases he
               rename_i dj m
               split at he
               case h_2=>cases he
               rename_i n;obtain ⟨o7,bj⟩:=jJ he;simp only [Bool.and_eq_true,Nat.ble_eq] at o7;have aH:=tS o7.1;subst aH;simp only [Rel] at aZ;subst aZ;have S5:=zT B7 n;have hlen:(hG z.cells n).length=n * ba.size:=by rw [<-S5.length];simp [Builtin.zeroCells,pe,aD.2]
               exact Zt s aD.1.1 S5 hlen (by have:=o7.2;unfold top;omega) (fun an A c9 fL a b c=>amz H o7.2 a b c) (fun A c9 fL bF a b c d f=>amA H o7.2 A c9 fL bF a b c d f) bj ak
       | _=>rw [bU] at he;cases he
     | _=>rw [za] at he;exact main (by rw [za];simp) he
theorem ab1 {ay:Fr} {E:Env} {h ab:ah} {w:World} (s:bd ay E h w) {t:TypeId} {rest:List TypeId} {x y v:V} {X Y:Value} {ty:TypeId}
 (he:(Eu P t).run x y h=.val v ab) (ak:Rel E x X) (aZ:Rel E y Y):df ay P E w (Builtin.copy_ (t::rest).toArray ty #[X,Y]) v ab:=by
 unfold Eu at he;cases av:a' P t with
 | none=>rw [av] at he;cases he
 | some aR=>
   rw [av] at he;simp only at he;cases bU:aR.bh with
   | slice e=>
     rw [bU] at he;simp only at he;cases cu:a' P e with
     | none=>rw [cu] at he;cases he
     | some ba=>
       rw [cu] at he;simp only at he;exact ab2 s (fun w=>by have:=fK av w;rw [bU] at this;exact this) (fun w=>kg cu w) he ak aZ
   | _=>rw [bU] at he;cases he
theorem abL {ay:Fr} {E:Env} {h ab:ah} {w:World} (s:bd ay E h w) {t:TypeId} {x v:V} {X:Value} {ty:TypeId} {z:List V} (aD:A5 P t=some z)
 (he:Et z x h=.val v ab) (ak:Rel E x X):df ay P E w (Builtin.clear_ #[t] ty #[X]) v ab:=by
 unfold A5 at aD;cases av:a' P t with
 | none=>rw [av] at aD;cases aD
 | some aR=>
   rw [av] at aD;simp only at aD;cases bU:aR.bh with
   | slice e=>
     rw [bU] at aD;simp only at aD;cases cu:a' P e with
     | none=>rw [cu] at aD;cases aD
     | some ba=>
       rw [cu] at aD;simp only at aD;cases bn:ba.zero with
       | none=>rw [bn] at aD;cases aD
       | some z0=>
         rw [bn] at aD;simp only [Option.some.injEq] at aD;subst aD;have hu:∀w,(underlying t).run P w=.ok (.slice e) w:=fun w=>by have:=fK av w;rw [bU] at this;exact this
         obtain ⟨z,mx,B7,uk⟩:=tm (P:=P) (E:=E) cu bn w;have nothing:∀a c,X=.slice a 0 c->v=.tuple []->ab=h->df ay P E w (Builtin.clear_ #[t] ty #[X]) v ab:=by
          intro a c b4 bj bl;subst b4 bj bl;refine ⟨.tuple #[],w,E,?_,Env.le.refl E,?_,s⟩
          . cases a<;>simp [Builtin.clear_,Sem.run_bind,hu,Result.andThen_ok,Sem.run_pure]
          . simp only [Rel];exact ⟨_,rfl,rfl⟩
         have WG:∀(b:aQ) (off n c:Nat) (p:jH),E b=some p->X=.slice (some ⟨p.aN,p.base+off,none⟩) n c->(bif Nat.beq n 0 then (a7.val (.tuple []) h) else (match lay h b off (hG z0.cells n) with
          | some ab=>a7.val (.tuple []) ab
          | none=>.fail))=.val v ab->df ay P E w (Builtin.clear_ #[t] ty #[X]) v ab:=by
          intro b off n c p af b4 he;cases n with
          | zero=>
            simp only [Nat.beq_refl,cond_true,a7.val.injEq] at he;exact nothing _ _ b4 he.1.symm he.2.symm
          | succ n=>
            simp only [show Nat.beq (n+1) 0=false from rfl,cond_false] at he;cases aA:lay h b off (hG z0.cells (n+1)) with
            | none=>rw [aA] at he;cases he
            | some aa=>
              rw [aA] at he;simp only [a7.val.injEq] at he;obtain ⟨rfl,rfl⟩:=he;obtain ⟨an,g1,g2⟩:=zn (P:=P) s (zT B7 (n+1)) aA af;subst b4;refine ⟨.tuple #[],an,E,?_,Env.le.refl E,?_,g2⟩
              . simp only [Builtin.clear_,Sem.run_bind,List.getElem?_toArray,List.getElem?_cons_zero,hu,mx,Result.andThen_ok];have:(storeCells ⟨p.aN,p.base+off,none⟩ (Builtin.zeroCells z.cells (n+1)).toList).run P w=.ok () an:=g1;simp [this,Sem.run_pure,Result.andThen_ok]
              . simp only [Rel];exact ⟨_,rfl,rfl⟩
         unfold Et at he;cases x<;>simp only at he<;>try (cases he;done)
         . simp only [Rel] at ak;obtain ⟨p,g1,g2,g3⟩:=ak;exact WG _ _ _ _ p g1 g3 he
         . simp only [Rel] at ak;obtain ⟨p,g1,g2,g3⟩:=ak;exact WG _ _ _ _ p g1 g3 he
         . simp only [Rel] at ak;obtain ⟨a,c,rfl⟩:=ak;simp only [a7.val.injEq] at he;exact nothing _ _ rfl he.1.symm he.2.symm
         . simp only [Rel] at ak;simp only [a7.val.injEq] at he;exact nothing _ _ ak he.1.symm he.2.symm
   | _=>rw [bU] at aD;cases aD
theorem abp {E:Env} {t:TypeId} {aR:n1} {x v:V} {X:Value} {ty:TypeId} (av:a' P t=some aR) (aS:Cc aR.bh=true) (he:se x=some v) (ak:Rel E x X) (w:World):
 ∃Z,(Builtin.cap_ #[t] ty #[X]).run P w=.ok Z w/\Rel E v Z:=by
 cases bU:aR.bh with
 | slice e=>
   have hu:∀w,(underlying t).run P w=.ok (.slice e) w:=fun w=>by have:=fK av w;rw [bU] at this;exact this
   cases x<;>simp only [se] at he<;>try (cases he;done)
   . simp only [Rel] at ak;obtain ⟨p,_,_,rfl⟩:=ak;cases he;refine ⟨_,?_,rfl⟩;simp [Builtin.cap_,Sem.run_bind,hu,Result.andThen_ok,Sem.run_pure];rfl
   . simp only [Rel] at ak;subst ak;cases he;refine ⟨_,?_,rfl⟩;simp [Builtin.cap_,Sem.run_bind,hu,Result.andThen_ok,Sem.run_pure];rfl
 | _=>rw [bU] at aS;cases aS
theorem C8 {α:Type} (a:Array α):a.toList.toArray=a:=by simp
theorem aad {ay:Fr} {E:Env} {h ab:ah} {w:World} (s:bd ay E h w) {b:Builtin} {cN:Array TypeId} {args:List V} {xs:List Value} {v:V} {ty:TypeId} {cs:Array Bool} (aA:bk E args xs)
 (he:(qQ P b cN.toList).run args h=.val v ab):∃m:Sem Value,Go.builtin b cN ty cs xs.toArray=(do pure (.value (<-m)))/\df ay P E w m v ab:=by
 have one:∀{x:V},bk E [x] xs->∃X,xs=[X]/\Rel E x X:=by intro x h;simp only [bk] at h;obtain ⟨y,cV,rfl,aZ,rfl⟩:=h;exact ⟨y,rfl,aZ⟩
 have two:∀{x y:V},bk E [x,y] xs->∃X Y,xs=[X,Y]/\Rel E x X/\Rel E y Y:=by intro x y h;simp only [bk] at h;obtain ⟨X,_,rfl,b4,Y,_,rfl,fH,rfl⟩:=h;exact ⟨X,Y,rfl,b4,fH⟩
 cases b<;>simp only [qQ] at he<;>try (simp [gr.none] at he;done)
 . -- append
   cases fg:cN.toList with
   | nil=>rw [fg] at he;simp [gr.none] at he
   | cons t tf=>
     rw [fg] at he;cases tf with
     | nil=>simp [gr.none] at he
     | cons u an1=>
       cases an1 with
       | cons _ _=>simp [gr.none] at he
       | nil=>
         simp only at he
         match args,he,aA with
         | [x,y],he,aA=>
           obtain ⟨X,Y,rfl,b4,fH⟩:=two aA;have e:cN=#[t,u]:=by rw [<-C8 cN,fg]
           exact ⟨_,rfl,by rw [e];exact Zq s he b4 fH⟩
         | [],he,_=>cases he
         | [_],he,_=>cases he
         | _::_::_::_,he,_=>cases he
 . -- cap
   cases fg:cN.toList with
   | nil=>rw [fg] at he;simp [gr.none] at he
   | cons t tf=>
     rw [fg] at he;cases tf with
     | cons _ _=>simp [gr.none] at he
     | nil=>
       simp only at he;cases av:a' P t with
       | none=>rw [av] at he;simp [gr.none] at he
       | some aR=>
         rw [av] at he;simp only at he;cases aS:Cc aR.bh with
         | false=>rw [aS] at he;simp [gr.none] at he
         | true=>
           rw [aS] at he;simp only [cond_true] at he
           match args,he,aA with
           | [x],he,aA=>
             obtain ⟨X,rfl,b4⟩:=one aA;have e:cN=#[t]:=by rw [<-C8 cN,fg]
             obtain ⟨eo,rfl⟩:=a7.iP he;obtain ⟨Z,fI,cL⟩:=abp (P:=P) (ty:=ty) av aS eo b4 w;exact ⟨_,rfl,by rw [e];exact df.plain s fI cL⟩
           | [],he,_=>cases he
           | _::_::_,he,_=>cases he
 . -- clear
   cases fg:cN.toList with
   | nil=>rw [fg] at he;simp [gr.none] at he
   | cons t tf=>
     rw [fg] at he;cases tf with
     | cons _ _=>simp [gr.none] at he
     | nil=>
       simp only at he;cases aD:A5 P t with
       | none=>rw [aD] at he;simp [gr.none] at he
       | some z=>
         rw [aD] at he;simp only at he
         match args,he,aA with
         | [x],he,aA=>
           obtain ⟨X,rfl,b4⟩:=one aA;have e:cN=#[t]:=by rw [<-C8 cN,fg]
           exact ⟨_,rfl,by rw [e];exact abL s aD he b4⟩
         | [],he,_=>cases he
         | _::_::_,he,_=>cases he
 . -- copy
   cases fg:cN.toList with
   | nil=>rw [fg] at he;simp [gr.none] at he
   | cons t tf=>
     rw [fg] at he;simp only at he
     match args,he,aA with
     | [x,y],he,aA=>
       obtain ⟨X,Y,rfl,b4,fH⟩:=two aA;have e:cN=(t::tf).toArray:=by rw [<-C8 cN,fg]
       exact ⟨_,rfl,by rw [e];exact ab1 s he b4 fH⟩
     | [],he,_=>cases he
     | [_],he,_=>cases he
     | _::_::_::_,he,_=>cases he
 . -- len
   cases fg:cN.toList with
   | nil=>rw [fg] at he;simp [gr.none] at he
   | cons t tf=>
     rw [fg] at he;cases tf with
     | cons _ _=>simp [gr.none] at he
     | nil=>
       simp only at he;cases av:a' P t with
       | none=>rw [av] at he;simp [gr.none] at he
       | some aR=>
         rw [av] at he;simp only at he
         match args,he,aA with
         | [x],he,aA=>
           obtain ⟨X,rfl,b4⟩:=one aA;have e:cN=[t].toArray:=by rw [<-C8 cN,fg]
           cases hm:uv aR.bh with
           | true=>
             rw [hm] at he;exact ⟨_,rfl,by rw [e];exact ajB s av hm b4 ty [] he⟩
           | false=>
             rw [hm] at he;simp only [cond_false] at he;obtain ⟨eo,rfl⟩:=a7.iP he;obtain ⟨Z,fI,cL⟩:=ajC (P:=P) av eo b4 ty [] w;exact ⟨_,rfl,by rw [e];exact df.plain s fI cL⟩
         | [],he,_=>cases hm:uv aR.bh<;>rw [hm] at he<;>cases he
         | _::_::_,he,_=>cases hm:uv aR.bh<;>rw [hm] at he<;>cases he
 . -- max
   obtain ⟨eo,rfl⟩:=a7.iP he;clear he;cases args with
   | nil=>cases eo
   | cons x args=>
     simp only [kU] at eo;obtain ⟨k,a,rfl,aa⟩:=ke eo;simp only [bk] at aA;obtain ⟨X,cV,rfl,b4,aA⟩:=aA;have:=b4.iZ;subst this;obtain ⟨Z,fI,cL⟩:=Md (P:=P) false args cV k a v aA aa w;exact ⟨_,rfl,df.plain (Z:=Z) s (by simpa [Builtin.max_] using fI) cL⟩
 . -- min
   obtain ⟨eo,rfl⟩:=a7.iP he;clear he;cases args with
   | nil=>cases eo
   | cons x args=>
     simp only [kU] at eo;obtain ⟨k,a,rfl,aa⟩:=ke eo;simp only [bk] at aA;obtain ⟨X,cV,rfl,b4,aA⟩:=aA;have:=b4.iZ;subst this;obtain ⟨Z,fI,cL⟩:=Md (P:=P) true args cV k a v aA aa w;exact ⟨_,rfl,df.plain (Z:=Z) s (by simpa [Builtin.min_] using fI) cL⟩
end
section
variable {P:Program}
def eO (P:Program):Prop:=∀(f:FuncId) (fn:Func),P.funcs[f]? =some fn->(fn.name == "runtime.NumGoroutine")=false
theorem uT (bJ:eO P) {f:FuncId} {fn:Func} (az:P.funcs[f]? =some fn) (ae:fn.body.isSome=true) (args:Array Value) (w:World):(callFunc f args).run P w=.ok (.enter f args) w:=by
 have e9:fn.body.isNone=false:=by cases h:fn.body with | none=>rw [h] at ae;cases ae | some c=>rfl
 simp only [callFunc,Sem.run_bind,run_program,Result.andThen_ok,az];rw [if_neg (by rw [bJ f fn az];simp)];simp [e9]
theorem LD {α β:Type} (f:α->β) (a:Array α):a.map f=(a.toList.map f).toArray:=by apply Array.ext';simp
theorem Mc (ρ:Operand->Value) (bm:Array (Nat × Operand)):(bm.map fun (i,x)=>(i,ρ x))=(bm.toList.map fun (i,x)=>(i,ρ x)).toArray:=by apply Array.ext';simp
theorem ZH {E:Env} {t u6:TypeId} {aR:n1} {ok:Bool} {x v:V} {X:Value} (av:a' P t=some aR) (ae:Nat.beq (fi aR.bh) 5=false) (ak:Rel E x X)
 (he:AW t aR.zero ok x=some v) (w:World):∃Z,(Instr.typeAssert X u6 t ok).run P w=.ok Z w/\Rel E v Z:=by
 have hu:=fK av w;have ra:∀ms,aR.bh≠.interface ms:=fun ms e=>by rw [e] at ae;simp [fi] at ae
 have zero:∀z,aR.zero=some z->∃x,(zeroValue t).run P w=.ok x w/\Rel E z x:=fun z bn=>by obtain ⟨x,aa,ad,_⟩:=zX (P:=P) av bn E w;exact ⟨x,aa,ad⟩
 unfold AW at he;cases x<;>simp only at he<;>try (cases he;done)
 case iface u y=>
  simp only [Rel] at ak;obtain ⟨Y,rfl,fH⟩:=ak;rw [im] at he;by_cases zb:u=t
  . rw [if_pos zb] at he;simp only [Option.some.injEq] at he;subst zb;cases ok with
    | true=>
      simp only [cond_true] at he;subst he;refine ⟨.tuple #[Y,.bool true],?_,by simp only [Rel,bk];exact ⟨_,rfl,_,_,rfl,fH,_,_,rfl,rfl,rfl⟩⟩;simp only [Instr.typeAssert,Sem.run_bind,hu,Result.andThen_ok];cases bU:aR.bh<;>first
       | exact absurd bU (ra _)
       | (simp only [if_true];rfl)
    | false=>
      simp only [cond_false] at he;subst he;refine ⟨Y,?_,fH⟩;simp only [Instr.typeAssert,Sem.run_bind,hu,Result.andThen_ok];cases bU:aR.bh<;>first
       | exact absurd bU (ra _)
       | (simp only [if_true];rfl)
  . rw [if_neg zb] at he;cases ok with
    | false=>cases he
    | true=>
      simp only [cond_true] at he;cases bn:aR.zero with
      | none=>rw [bn] at he;cases he
      | some z=>
        rw [bn] at he;simp only [Option.some.injEq] at he;subst he;obtain ⟨a_,b6,z2⟩:=zero z bn;refine ⟨.tuple #[a_,.bool false],?_,by simp only [Rel,bk];exact ⟨_,rfl,_,_,rfl,z2,_,_,rfl,rfl,rfl⟩⟩;simp only [Instr.typeAssert,Sem.run_bind,hu,Result.andThen_ok];cases bU:aR.bh<;>first
         | exact absurd bU (ra _)
         | (simp only [if_neg zb,if_true,Sem.run_bind,b6,Result.andThen_ok];rfl)
 case nilIface=>
  simp only [Rel] at ak;subst ak;cases ok with
  | false=>cases he
  | true=>
    simp only [cond_true] at he;cases bn:aR.zero with
    | none=>rw [bn] at he;cases he
    | some z=>
      rw [bn] at he;simp only [Option.some.injEq] at he;subst he;obtain ⟨a_,b6,z2⟩:=zero z bn;refine ⟨.tuple #[a_,.bool false],?_,by simp only [Rel,bk];exact ⟨_,rfl,_,_,rfl,z2,_,_,rfl,rfl,rfl⟩⟩;simp only [Instr.typeAssert,Sem.run_bind,hu,Result.andThen_ok];cases bU:aR.bh<;>first
       | exact absurd bU (ra _)
       | (simp only [if_true,Sem.run_bind,b6,Result.andThen_ok];rfl)
def ht (P:Program) (call:dQ):Prop:=∀f args h v ab,call f args h=.val v ab->True
theorem Q2 {rd:Option Nat} {ay:Fr} {E:Env} {h ab:ah} {w:World} {call:dQ} (bJ:eO P) (cY:hi P call) (dI:ht P call) {o:Oper} {au:Nat} {r:bI} {a:Act} {v:V}
 (he:(fw P o).run call r h=.val v ab) (k:RegRel0 E au r a) (s:bd ay E h w) {K:Act->World->Prop} {Q:Exit->Act->World->Prop}
 (dO:∀ax x an,E.le ax->Rel ax v x->bd ay ax ab an->K (a.put o.dst x) an):o.wpIn (cw rd) 0 P a w K Q:=by
 obtain ⟨dst,op,type,pos,after,guard⟩:=o;cases op<;>simp only [fw] at he<;>try (simp [dq.none] at he;done)
 case move x=>
  simp only [a7.val.injEq] at he;obtain ⟨rfl,rfl⟩:=he;exact gJ (m:=pure (a.eval x)) rfl (df.plain s rfl (dH k x)) dO
 case assign x=>
  simp only [a7.val.injEq] at he;obtain ⟨rfl,rfl⟩:=he;exact gJ (m:=pure (a.eval x)) rfl (df.plain s rfl (dH k x)) dO
 case pick c x y=>
  have aD:=dH k c;generalize (bT c).run r=Ns at he aD;cases Ns<;>simp only at he<;>try (cases he;done)
  rename_i t;simp only [a7.val.injEq] at he;obtain ⟨rfl,rfl⟩:=he;simp only [Rel] at aD;refine gJ (m:=do pure (if <-asBool (a.eval c) then a.eval x else a.eval y)) (by simp only [execOp,bind_assoc,pure_bind]) (df.plain (Z:=if t then a.eval x else a.eval y) s ?_ ?_) dO
  . rw [aD];rfl
  . cases t
    . exact dH k y
    . exact dH k x
 case alloc t=>
  cases av:a' P t with
  | none=>rw [av] at he;simp [dq.none] at he
  | some aR=>
    rw [av] at he;simp only at he;cases bn:aR.zero with
    | none=>rw [bn] at he;simp [dq.none] at he
    | some z=>
      rw [bn] at he;simp only at he;cases aV:gG h z.cells with
      | none=>rw [aV] at he;cases he
      | some aa=>
        rw [aV] at he;simp only [hr,a7.val.injEq] at he;obtain ⟨rfl,rfl⟩:=he;obtain ⟨x,ak,ou,_⟩:=tm (P:=P) (E:=E) av bn w;obtain ⟨ax,g1,g2,g3,g4⟩:=Gl (P:=P) s ou aV t;have JA:(newRow t x.cells).run P w=.ok ⟨w.heap.size,0,none⟩ {w with heap:=w.heap.push (.cells x.cells t)}:=by simpa using g3
        have JB:bd ay ax aa {w with heap:=w.heap.push (.cells x.cells t)}:=by simpa using g4
        exact gJ (m:=Instr.alloc t true (.tuple #[])) rfl ⟨.pointer (some ⟨w.heap.size,0,none⟩),_,ax,by simp only [Instr.alloc,Sem.run_bind,ak,Result.andThen_ok,newVar,JA,Sem.run_pure],g1,by simp only [Rel];exact ⟨_,g2,by simp⟩,JB⟩ dO
 case box t x=>
  obtain ⟨aB,he⟩:=jJ he;cases aV:gG h ((bT x).run r).cells with
  | none=>rw [aV] at he;cases he
  | some aa=>
    rw [aV] at he;simp only [hr,a7.val.injEq] at he;obtain ⟨rfl,rfl⟩:=he;have aA:=(dH k x).cells (fun e=>by rw [e] at aB;cases aB);obtain ⟨ax,g1,g2,g3,g4⟩:=Gl (P:=P) s aA aV t;have JA:(newRow t (a.eval x).cells).run P w=.ok ⟨w.heap.size,0,none⟩ {w with heap:=w.heap.push (.cells (a.eval x).cells t)}:=by simpa using g3
    have JB:bd ay ax aa {w with heap:=w.heap.push (.cells (a.eval x).cells t)}:=by simpa using g4
    exact gJ (m:=Instr.box t (a.eval x)) rfl ⟨.pointer (some ⟨w.heap.size,0,none⟩),_,ax,by simp only [Instr.box,Sem.run_bind,newVar,JA,Result.andThen_ok,Sem.run_pure],g1,by simp only [Rel];exact ⟨_,g2,by simp⟩,JB⟩ dO
 case build t bm=>
  obtain ⟨eo,rfl⟩:=a7.iP he;clear he;obtain ⟨Z,fI,cL⟩:=Z_ (P:=P) (GH k bm.toList) eo w;refine gJ (m:=Instr.build t (bm.map fun (i,x)=>(i,a.eval x))) rfl (df.plain (Z:=Z) s ?_ cL) dO;rw [Mc];exact fI
 case buildSlice t n bm=>
  refine gJ (m:=Instr.buildSlice t n (bm.map fun (i,x)=>(i,a.eval x))) rfl ?_ dO;rw [Mc];exact aab s (GH k bm.toList) he
 case load t x=>
  obtain ⟨eo,rfl⟩:=a7.iP he;clear he;obtain ⟨Y,fH,cL,_⟩:=Uh (P:=P) s (dH k x) eo;exact gJ (m:=Instr.loadAt t (a.eval x)) rfl (df.plain s fH cL) dO
 case store t x y=>
  cases cO:(ta P t).run h ((bT x).run r) ((bT y).run r) with
  | none=>rw [cO] at he;cases he
  | some aa=>
    rw [cO] at he;simp only [hr,a7.val.injEq] at he;obtain ⟨rfl,rfl⟩:=he;obtain ⟨an,cZ,iJ⟩:=anq (P:=P) s (dH k x) (dH k y) cO;refine ⟨fun _ _=>trivial,?_⟩;rw [qz (by intro c h;cases h)];have:execOp a.eval ⟨dst,.store t x y,type,pos,after,guard⟩=(do Instr.storeAt t (a.eval x) (a.eval y);pure .skip):=rfl;rw [this,Sem.run_bind,cZ];exact dO E undef an (Env.le.refl E) (by simp [Rel]) iJ
 case nilCheck x=>
  obtain ⟨eo,rfl⟩:=a7.iP he;clear he;have ak:=dH k x;generalize (bT x).run r=xG at eo ak;have fe:∀X,Rel E xG X->(match X with
   | .pointer none | .nilIface | .nilFunc=>(runtimePanic .nilDeref:Sem Next)
   | .func (.method name) first captured=>
     match (first[0]? :Option Value) with
     | some .nilIface=>runtimePanic .nilDeref
     | some (.iface t w)=>do
       if (<-nilAhead ((<-program).types.size+Made.depth) t w name) != some false then
        unsupported (.noEntry "op/nilCheck.the method's receiver behind this interface value is a nil pointer, or cannot be seen to be none, and the arguments act or may panic (ledger 612)")
       pure (.value (.func (.method name) first captured))
     | _=>pure (.value (.func (.method name) first captured))
   | x=>pure (.value x))=pure (.value X)/\v=xG:=by
   intro X b4;cases xG<;>simp only [uD] at eo<;>try (cases eo;done)
   all_goals simp only [Option.some.injEq] at eo
   all_goals simp only [Rel] at b4
   . obtain ⟨p,_,rfl⟩:=b4;exact ⟨rfl,eo.symm⟩
   . rcases b4 with ⟨_,_,rfl,_⟩ | ⟨_,_,_,_,_,rfl⟩<;>exact ⟨rfl,eo.symm⟩
   . obtain ⟨p,rfl,_⟩:=b4;exact ⟨rfl,eo.symm⟩
   . obtain ⟨_,p,rfl,_⟩:=b4;exact ⟨rfl,eo.symm⟩
  obtain ⟨aa,rfl⟩:=fe _ ak;exact gJ (m:=pure (a.eval x)) (by simp only [execOp];rw [pure_bind];exact aa) (df.plain s rfl ak) dO
 case binOp op t x y u=>
  obtain ⟨eo,rfl⟩:=a7.iP he;clear he;obtain ⟨Z,fI,cL⟩:=Z2 (P:=P) (fs:=x) (iy:=y) eo (dH k x) (dH k y) w;exact gJ rfl (df.plain s fI cL) dO
 case unOp op t x=>
  obtain ⟨eo,rfl⟩:=a7.iP he;clear he;obtain ⟨Z,fI,cL⟩:=aob (P:=P) eo (dH k x) w;exact gJ (m:=Op.unary op (a.eval x)) rfl (df.plain s fI cL) dO
 case convert t u x=>exact gJ (m:=convert t u (a.eval x)) rfl (abY s he (dH k x)) dO
 case makeInterface t x=>
  cases av:a' P t with
  | none=>rw [av] at he;simp [dq.none] at he
  | some aR=>
    rw [av] at he;simp only at he;cases ae:Nat.beq (fi aR.bh) 5 with
    | true=>rw [ae] at he;simp [dq.none] at he
    | false=>
      rw [ae] at he;simp only [cond_false,a7.val.injEq] at he;obtain ⟨rfl,rfl⟩:=he;refine gJ (m:=Instr.makeInterface t (a.eval x)) rfl (df.plain (Z:=.iface t (a.eval x)) s ?_ ?_) dO
      . have hu:=fK av w;simp only [Instr.makeInterface,Sem.run_bind,hu,Result.andThen_ok];cases bU:aR.bh<;>first
         | rfl
         | (rw [bU] at ae;simp [fi] at ae)
      . simp only [Rel];exact ⟨_,rfl,dH k x⟩
 case makeFunc fn first eX=>
  cases fn<;>simp only at he<;>try (simp [dq.none] at he;done)
  rename_i f;cases az:(first.isEmpty&&!Nat.beq f dy) with
  | false=>
    rw [az] at he;simp only [cond_false] at he;cases jO:(eX.isEmpty&&!Nat.beq f dy) with
    | false=>rw [jO] at he;simp [dq.none] at he
    | true=>
      rw [jO] at he;simp only [cond_true,a7.val.injEq] at he;obtain ⟨rfl,rfl⟩:=he;simp only [Bool.and_eq_true,Bool.not_eq_true'] at jO;have Ke:f≠dy:=fun e=>by rw [e] at jO;exact absurd jO.2 (by decide)
      have Ka:eX=#[]:=by simpa using jO.1
      subst Ka;refine gJ (m:=Instr.makeFunc (.func f) (first.map a.eval) #[]) (by simp [execOp]) (df.plain s rfl ?_) dO;simp only [Rel];exact ⟨Ke,_,rfl,by rw [LD];simpa using qX k first.toList⟩
  | true=>
    rw [az] at he;simp only [cond_true,a7.val.injEq] at he;obtain ⟨rfl,rfl⟩:=he;simp only [Bool.and_eq_true,Bool.not_eq_true'] at az;have Ke:f≠dy:=fun e=>by rw [e] at az;exact absurd az.2 (by decide)
    have Ka:first=#[]:=by simpa using az.1
    subst Ka;refine gJ (m:=Instr.makeFunc (.func f) #[] (eX.map a.eval)) (by simp [execOp]) (df.plain s rfl ?_) dO;simp only [Rel];exact .inl ⟨Ke,_,rfl,by rw [LD];simpa using qX k eX.toList⟩
 case makeSlice t l c=>exact gJ (m:=Instr.makeSlice t (a.eval l) (a.eval c)) rfl (akd s (dH k l) (dH k c) he) dO
 case slice t x bC ao ed=>
  obtain ⟨eo,rfl⟩:=a7.iP he;clear he;obtain ⟨Z,fI,cL⟩:=am7 (P:=P) eo (dH k x) (GG k bC) (GG k ao) (GG k ed) w;exact gJ (m:=Instr.sliceAt t (a.eval x) (bC.map a.eval) (ao.map a.eval) (ed.map a.eval)) rfl (df.plain s fI cL) dO
 case fieldAddr t x i=>
  obtain ⟨eo,rfl⟩:=a7.iP he;clear he;obtain ⟨Z,fI,cL⟩:=ac0 (P:=P) eo (dH k x) w;exact gJ (m:=Instr.fieldAt t (a.eval x) i) rfl (df.plain s fI cL) dO
 case field t x i=>
  obtain ⟨eo,rfl⟩:=a7.iP he;clear he;obtain ⟨Z,fI,cL⟩:=ac1 (P:=P) eo (dH k x) w;exact gJ (m:=Instr.field t (a.eval x) i) rfl (df.plain s fI cL) dO
 case indexAddr t x i=>
  obtain ⟨eo,rfl⟩:=a7.iP he;clear he;obtain ⟨Z,fI,cL⟩:=agC (P:=P) eo (dH k x) (dH k i) w;exact gJ (m:=Instr.indexAt t (a.eval x) (a.eval i)) rfl (df.plain s fI cL) dO
 case index t x i=>
  obtain ⟨eo,rfl⟩:=a7.iP he;clear he;obtain ⟨Z,fI,cL⟩:=agE (P:=P) eo (dH k x) (dH k i) w;exact gJ (m:=Instr.index t (a.eval x) (a.eval i)) rfl (df.plain s fI cL) dO
 case range t x=>exact gJ (m:=Instr.range t (a.eval x)) rfl (al_ s (dH k x) he) dO
 case next it zk=>
  cases zk with
  | true=>exact gJ (m:=Instr.next (a.eval it) true type) rfl (akx s (dH k it) he) dO
  | false=>exact gJ (m:=Instr.next (a.eval it) false type) rfl (akv s (dH k it) he) dO
 case entry it=>exact gJ (m:=Instr.entry (a.eval it)) rfl (acE s (dH k it) he) dO
 case lookup t x y ok=>
  obtain ⟨eo,rfl⟩:=a7.iP he;clear he;obtain ⟨Z,fI,cL⟩:=aj3 (P:=P) s (dH k x) (dH k y) eo;exact gJ (m:=Instr.lookup t (a.eval x) (a.eval y) ok) rfl (df.plain s fI cL) dO
 case mapEntry t m y=>exact gJ (m:=Instr.mapEntry t (a.eval m) (a.eval y)) rfl (akg s (dH k m) (dH k y) he) dO
 case entryStore t m st x=>
  cases cO:tR h ((bT m).run r) ((bT st).run r) ((bT x).run r) with
  | none=>rw [cO] at he;cases he
  | some aa=>
    rw [cO] at he;simp only [hr,a7.val.injEq] at he;obtain ⟨rfl,rfl⟩:=he;obtain ⟨an,cZ,iJ⟩:=acD (P:=P) (t:=t) s (dH k m) (dH k st) (dH k x) cO;refine ⟨fun _ _=>trivial,?_⟩;rw [qz (by intro c h;cases h)];have:execOp a.eval ⟨dst,.entryStore t m st x,type,pos,after,guard⟩=(do Instr.entryStore t (a.eval m) (a.eval st) (a.eval x);pure .skip):=rfl;rw [this,Sem.run_bind,cZ];exact dO E undef an (Env.le.refl E) (by simp [Rel]) iJ
 case mapUpdate t m y x=>
  cases cO:(pG P t).run h ((bT m).run r) ((bT y).run r) ((bT x).run r) with
  | none=>rw [cO] at he;cases he
  | some aa=>
    rw [cO] at he;simp only [hr,a7.val.injEq] at he;obtain ⟨rfl,rfl⟩:=he;obtain ⟨an,cZ,iJ⟩:=Xo (P:=P) s (dH k m) (dH k y) (dH k x) cO;refine ⟨fun _ _=>trivial,?_⟩;rw [qz (by intro c h;cases h)];have:execOp a.eval ⟨dst,.mapUpdate t m y x,type,pos,after,guard⟩=(do Instr.mapUpdate t (a.eval m) (a.eval y) (a.eval x);pure .skip):=rfl;rw [this,Sem.run_bind,cZ];exact dO E undef an (Env.le.refl E) (by simp [Rel]) iJ
 case insert t m y x=>
  cases cO:(pG P t).run h ((bT m).run r) ((bT y).run r) ((bT x).run r) with
  | none=>rw [cO] at he;cases he
  | some aa=>
    rw [cO] at he;simp only [hr,a7.val.injEq] at he;obtain ⟨rfl,rfl⟩:=he;obtain ⟨an,cZ,iJ⟩:=Xo (P:=P) s (dH k m) (dH k y) (dH k x) cO;refine ⟨fun _ _=>trivial,?_⟩;rw [qz (by intro c h;cases h)];have:execOp a.eval ⟨dst,.insert t m y x,type,pos,after,guard⟩=(do Instr.mapUpdate t (a.eval m) (a.eval y) (a.eval x);pure .skip):=rfl;rw [this,Sem.run_bind,cZ];exact dO E undef an (Env.le.refl E) (by simp [Rel]) iJ
 case makeMap t x=>exact gJ (m:=Instr.makeMap t (x.map a.eval)) rfl (akc s (GG k x) he) dO
 case panic x=>
  exfalso;unfold Mb at he
  split at he<;>cases he
 case typeAssert x u6 t ok=>
  cases av:a' P t with
  | none=>rw [av] at he;simp [dq.none] at he
  | some aR=>
    rw [av] at he;simp only at he;cases ae:Nat.beq (fi aR.bh) 5 with
    | true=>rw [ae] at he;simp [dq.none] at he
    | false=>
      rw [ae] at he;simp only [cond_false] at he;obtain ⟨eo,rfl⟩:=a7.iP he;clear he;obtain ⟨Z,fI,cL⟩:=ZH av ae (u6:=u6) (dH k x) eo w;exact gJ (m:=Instr.typeAssert (a.eval x) u6 t ok) rfl (df.plain s fI cL) dO
 case extract x i=>
  have ak:=dH k x;generalize (bT x).run r=xG at he ak;cases xG<;>simp only at he<;>try (cases he;done)
  obtain ⟨eo,rfl⟩:=a7.iP he;clear he;simp only [Rel] at ak;obtain ⟨arr,b4,aA⟩:=ak;obtain ⟨y,aZ,cL⟩:=aA.get i v eo;refine gJ (m:=Instr.extract (a.eval x) i) rfl (df.plain (Z:=y) s ?_ cL) dO;rw [b4];have:arr[i]? =some y:=by simpa using aZ
  simp only [Instr.extract,this,Sem.run_pure]
 case call c=>
  obtain ⟨callee,args,types⟩:=c;cases callee with
  | invoke _ _=>simp [sc,dq.none] at he
  | builtin b=>
    simp only [sc] at he;obtain ⟨cs,hA⟩:∃cs,execOp a.eval ⟨dst,.call ⟨.builtin b,args,types⟩,type,pos,after,guard⟩=Go.builtin b types type cs (args.map a.eval):=by simp only [execOp,resolve,pure_bind,invoke];exact ⟨_,rfl⟩
    obtain ⟨m,hm,aB⟩:=aad (P:=P) (ty:=type) (cs:=cs) s (qX k args.toList) he;refine gJ (m:=m) ?_ aB dO;rw [hA,<-hm,LD]
  | value f=>
    simp only [sc] at he;have az:=dH k f;generalize af_:(bT f).run r=xD at he az;cases xD<;>simp only [V.zH] at he<;>try (cases he;done)
    rotate_left
    . rename_i g cs;simp only [Rel] at az;refine ⟨fun _ _=>trivial,?_⟩;rw [qz (by intro c h;cases h)];obtain ⟨aB,first,b4,aA⟩:=az;have pZ:=bk.append aA (qX k args.toList);have o7:=cY.fn _ _ _ _ _ _ aB he E w _ pZ s;have hex:execOp a.eval ⟨dst,.call ⟨.value f,args,types⟩,type,pos,after,guard⟩=callFunc g (first++args.map a.eval):=by
       simp only [execOp,resolve,b4,Deferred.ofValue,pure_bind,invoke];simp
      have e:first++args.map a.eval=(first.toList++args.toList.map a.eval).toArray:=by apply Array.ext';simp
      rw [hex,e];rcases o7 with ⟨⟨fn,jQ,ae⟩,aD⟩ | ⟨ax,x,an,aE,ar,aw,aK⟩
      case inr=>
       rw [aE];exact dO ax x an ar aw aK
      rw [uT bJ jQ ae];refine ⟨fun h=>by simp at h,tK.2 (aD.mono fun e an aC=>?_)⟩;obtain ⟨ax,x,rfl,ar,aw,aK⟩:=aC;exact dO ax x an ar aw aK
    rename_i g cs;simp only [Rel] at az;refine ⟨fun _ _=>trivial,?_⟩;rw [qz (by intro c h;cases h)];rcases az with ⟨aB,eX,b4,aA⟩ | ⟨aB,b,p,hA,af,b4⟩
    . have pZ:=(qX k args.toList).append aA;have o7:=cY.fn _ _ _ _ _ _ aB he E w _ pZ s;have hex:execOp a.eval ⟨dst,.call ⟨.value f,args,types⟩,type,pos,after,guard⟩=callFunc g (args.map a.eval++eX):=by
       simp only [execOp,resolve,b4,Deferred.ofValue,pure_bind,invoke];simp
      have e:args.map a.eval++eX=(args.toList.map a.eval++eX.toList).toArray:=by apply Array.ext';simp
      rw [hex,e];rcases o7 with ⟨⟨fn,jQ,ae⟩,aD⟩ | ⟨ax,x,an,aE,ar,aw,aK⟩
      case inr=>
       rw [aE];exact dO ax x an ar aw aK
      rw [uT bJ jQ ae];refine ⟨fun h=>by simp at h,tK.2 (aD.mono fun e an aC=>?_)⟩;obtain ⟨ax,x,rfl,ar,aw,aK⟩:=aC;exact dO ax x an ar aw aK
    . subst aB hA;obtain ⟨kJ,tmps,assign,body,ar,aw⟩:=cY.XN _ _ _ _ _ _ he E w _ p (qX k args.toList) s af;have hex:execOp a.eval ⟨dst,.call ⟨.value f,args,types⟩,type,pos,after,guard⟩=Instr.yield p.aN (args.map a.eval):=by
       simp only [execOp,resolve,b4,Deferred.ofValue,pure_bind,invoke];simp
      have e:args.map a.eval=(args.toList.map a.eval).toArray:=by apply Array.ext';simp
      rw [hex,e,ar];refine ⟨fun h=>by simp at h,RoundIn.mono aw fun e an aC=>?_⟩;obtain ⟨ax,x,rfl,br,cF,cr⟩:=aC;exact dO ax x an br cF cr
end
section
variable {P:Program}
theorem JI {E:Env} {au:Nat} {r:bI} {a:Act} (k:RegRel0 E au r a) {all:Array Oper} {j:Nat} {g:Oper} {d:Nat} (aU:all[j]? =some g) (bb:g.dst=some d) (aez:d<au) (wh:d<=top):
 (∀b,T.get .bad (aj d) r=.bool b->yielded all a.tmps j=some b)/\(∀ai,T.get .bad (aj d) r=.tuple ai->yielded all a.tmps j=none):=by
 have aE:=k.aq d wh;have aO:d<a.tmps.size:=by rw [k.size];exact aez
 have he:a.tmps[d]? =some (a.tmps.getD d undef):=by simp [Array.getD_eq_getD_getElem?,aO]
 refine ⟨fun b ae=>?_,fun ai ae=>?_⟩
 . rw [ae] at aE;simp only [Rel] at aE;simp only [yielded,aU,Option.bind,bb,he,aE]
 . rw [ae] at aE;simp only [Rel] at aE;obtain ⟨arr,aE,_⟩:=aE;simp only [yielded,aU,Option.bind,bb,he,aE]
theorem QZ {rd:Option Nat} {ay:Fr} {E:Env} {h ab:ah} {w:World} {call:dQ} (bJ:eO P) (cY:hi P call) {o:Oper} {au:Nat} {r:bI} {a:Act} {v:V} (hm:l4 o.op=true)
 (he:(fw P o).run call r h=.cP v ab) (k:RegRel0 E au r a) (s:bd ay E h w) {K:Act->World->Prop} {Q:Exit->Act->World->Prop}
 (cM:∀ax x an,E.le ax->Rel ax v x->bd ay ax ab an->Q (.panic (qq x)) a an):o.wpIn (cw rd) 0 P a w K Q:=by
 obtain ⟨dst,op,type,pos,after,guard⟩:=o;cases op<;>simp only [l4] at hm<;>try (cases hm;done)
 all_goals simp only [fw] at he
 case panic x=>
  have ak:=dH k x;generalize (bT x).run r=xG at he ak;unfold Mb at he;cases xG<;>simp only at he<;>try (cases he;done)
  simp only [a7.cP.injEq] at he;obtain ⟨rfl,rfl⟩:=he;have B3:=ak;simp only [Rel] at ak;obtain ⟨Y,b4,fH⟩:=ak;refine ⟨fun _ _=>trivial,?_⟩;rw [qz (by intro c h;cases h)];have hex:(execOp a.eval ⟨dst,.panic x,type,pos,after,guard⟩).run P w=.halt (.panic (a.eval x)) w:=by simp only [execOp,b4,Instr.panic,Sem.run_bind];rfl
  rw [hex];exact cM E _ w (Env.le.refl E) B3 s
 case call c=>
  obtain ⟨callee,args,types⟩:=c;cases callee<;>simp only at hm<;>try (cases hm;done)
  rename_i f;simp only [sc] at he;have az:=dH k f;generalize af_:(bT f).run r=xD at he az;cases xD<;>simp only [V.zH] at he<;>try (cases he;done)
  rotate_left
  . rename_i g cs;simp only [Rel] at az;refine ⟨fun _ _=>trivial,?_⟩;rw [qz (by intro c h;cases h)];obtain ⟨aB,first,b4,aA⟩:=az;have pZ:=bk.append aA (qX k args.toList);obtain ⟨⟨fn,jQ,ae⟩,aD⟩:=cY.cP _ _ _ _ _ _ aB he E w _ pZ s;have hex:execOp a.eval ⟨dst,.call ⟨.value f,args,types⟩,type,pos,after,guard⟩=callFunc g (first++args.map a.eval):=by
     simp only [execOp,resolve,b4,Deferred.ofValue,pure_bind,invoke];simp
    have e:first++args.map a.eval=(first.toList++args.toList.map a.eval).toArray:=by apply Array.ext';simp
    rw [hex,e,uT bJ jQ ae];refine ⟨fun h=>by simp at h,tK.2 (aD.mono fun e an aC=>?_)⟩;obtain ⟨ax,x,rfl,ar,aw,aK⟩:=aC;exact cM ax x an ar aw aK
  rename_i g cs;simp only [Rel] at az;refine ⟨fun _ _=>trivial,?_⟩;rw [qz (by intro c h;cases h)];rcases az with ⟨aB,eX,b4,aA⟩ | ⟨aB,b,p,hA,af,b4⟩
  . have pZ:=(qX k args.toList).append aA;obtain ⟨⟨fn,jQ,ae⟩,aD⟩:=cY.cP _ _ _ _ _ _ aB he E w _ pZ s;have hex:execOp a.eval ⟨dst,.call ⟨.value f,args,types⟩,type,pos,after,guard⟩=callFunc g (args.map a.eval++eX):=by
     simp only [execOp,resolve,b4,Deferred.ofValue,pure_bind,invoke];simp
    have e:args.map a.eval++eX=(args.toList.map a.eval++eX.toList).toArray:=by apply Array.ext';simp
    rw [hex,e,uT bJ jQ ae];refine ⟨fun h=>by simp at h,tK.2 (aD.mono fun e an aC=>?_)⟩;obtain ⟨ax,x,rfl,ar,aw,aK⟩:=aC;exact cM ax x an ar aw aK
  . subst aB;exact absurd he (cY.XO _ _ _ _)
def nY (ay:Fr) (E:Env) (au:Nat) (K:Act->World->Prop) (Q:Exit->Act->World->Prop):oU->Prop
 | .ok r h=>∀ax bw an,E.le ax->fF ax au r bw->bd ay ax h an->K bw an
 | .cP v r h=>∀ax bw an x,E.le ax->fF ax au r bw->Rel ax v x->bd ay ax h an->Q (.panic (qq x)) bw an
 | .fail=>False
theorem nY.up {ay:Fr} {E ax:Env} (h:E.le ax) {au:Nat} {K:Act->World->Prop} {Q:Exit->Act->World->Prop} {x:oU} (k:nY ay E au K Q x):nY ay ax au K Q x:=by
 cases x with
 | ok r bl=>exact fun cm a w ad=>k cm a w (h.trans ad)
 | cP v r bl=>exact fun cm a w x ad=>k cm a w x (h.trans ad)
 | fail=>exact k
theorem U_ {rd:Option Nat} {ay:Fr} {E:Env} {h:ah} {w:World} {call:dQ} (bJ:eO P) (cY:hi P call) (dI:ht P call) {all:Array Oper} {i:Nat} {o:Oper} (ao:all[i]? =some o) {au:Nat} {r:bI} {a:Act}
 (bb:e7 au o.dst=true) (k:fF E au r a) (s:bd ay E h w) {K:Act->World->Prop} {Q:Exit->Act->World->Prop} (hw:Region.wanted o (yielded all a.tmps)=true)
 (af:nY ay E au K Q (GF (l4 o.op) (fw P o) (fX o.dst) call r h)):wpOpIn (cw rd) 0 P all Q i K a w:=by
 simp only [wpOpIn,ao,hw,if_true];unfold GF at af;cases a6:(fw P o).run call r h with
 | fail=>rw [a6] at af;exact af.elim
 | val v aa=>
   rw [a6] at af;exact Q2 bJ cY dI a6 k.toRegRel0 s fun ax x an ar aw aK=>af ax _ an ar ((k.mono ar).put bb aw) aK
 | cP v aa=>
   rw [a6] at af;simp only at af;cases hm:l4 o.op with
   | false=>rw [hm] at af;exact af.elim
   | true=>
     rw [hm] at af;exact QZ bJ cY hm a6 k.toRegRel0 s fun ax x an ar aw aK=>af ax a an x ar (k.mono ar) aw aK
theorem Xn {rd:Option Nat} {ay:Fr} {E:Env} {h:ah} {w:World} {all:Array Oper} {i:Nat} {o:Oper} (ao:all[i]? =some o) {au:Nat} {r:bI} {a:Act}
 (bb:e7 au o.dst=true) (k:fF E au r a) (s:bd ay E h w) {K:Act->World->Prop} {Q:Exit->Act->World->Prop} (hw:Region.wanted o (yielded all a.tmps)=false)
 (af:nY ay E au K Q (.ok ((fX o.dst).run r (.tuple [])) h)):wpOpIn (cw rd) 0 P all Q i K a w:=by
 simp only [wpOpIn,ao,hw,Bool.false_eq_true,if_false];exact ⟨fun _ _=>trivial,af E _ w (Env.le.refl E) (k.put bb (by simp only [Rel];exact ⟨#[],rfl,rfl⟩)) s⟩
theorem GD {rd:Option Nat} {ay:Fr} {E:Env} {h:ah} {w:World} {call:dQ} (bJ:eO P) (cY:hi P call) (dI:ht P call) {all:Array Oper} {i:Nat} {o:Oper} (ao:all[i]? =some o) {au:Nat} {r:bI} {a:Act}
 (bb:e7 au o.dst=true) (k:fF E au r a) (s:bd ay E h w) {K:Act->World->Prop} {Q:Exit->Act->World->Prop}
 (af:nY ay E au K Q ((zJ P au all o).run call r h)):wpOpIn (cw rd) 0 P all Q i K a w:=by
 unfold zJ at af;cases aB:o.guard with
 | none=>
   rw [aB] at af;exact U_ bJ cY dI ao bb k s (by simp [Region.wanted,aB]) af
 | some qd=>
   obtain ⟨j,want⟩:=qd;rw [aB] at af;simp only at af;cases aU:all[j]? with
   | none=>rw [aU] at af;exact af.elim
   | some g=>
     rw [aU] at af;simp only at af;cases kN:g.dst with
     | none=>rw [kN] at af;exact af.elim
     | some d=>
       rw [kN] at af;simp only at af;cases aD:(Nat.blt d au&&Nat.ble d top) with
       | false=>rw [aD] at af;exact af.elim
       | true=>
         rw [aD] at af;simp only [cond_true,R9,o6] at af;simp only [Bool.and_eq_true,Nat.blt_eq,Nat.ble_eq] at aD;obtain ⟨g1,g2⟩:=JI k.toRegRel0 aU kN aD.1 aD.2;cases bj:T.get .bad (aj d) r<;>rw [bj] at af<;>simp only at af<;>try (exact af.elim)
         . rename_i b;have aZ:=g1 b bj;cases ae:(bif want then b else !b) with
           | true=>
             rw [ae] at af;simp only [cond_true] at af;refine U_ bJ cY dI ao bb k s ?_ af;simp only [Region.wanted,aB,aZ];cases want<;>cases b<;>simp_all
           | false=>
             rw [ae] at af;simp only [cond_false] at af;refine Xn ao bb k s ?_ af;simp only [Region.wanted,aB,aZ];cases want<;>cases b<;>simp_all
         . rename_i ai;have aZ:=g2 ai bj;refine Xn ao bb k s ?_ af;simp only [Region.wanted,aB,aZ];rfl
theorem lz.list {E:Env} {v:V} {ds:List Deferred} (k:lz E v ds):nP E v.list ds:=by
 cases v<;>first
  | exact k
theorem alh {rd:Option Nat} {ay:Fr} {E:Env} {h:ah} {w:World} {call:dQ} (bJ:eO P) (cY:hi P call) (dI:ht P call) {all:Array Oper} {i:Nat} {o:Oper} (ao:all[i]? =some o) {au:Nat} {r:bI} {a:Act}
 (aE:rd=none\/LU o=true) (k:fF E au r a) (s:bd ay E h w) {K:Act->World->Prop} {Q:Exit->Act->World->Prop}
 (af:nY ay E au K Q ((GC P au all o).run call r h)):wpOpIn (cw rd) 0 P all Q i K a w:=by
 unfold GC at af;cases bb:e7 au o.dst with
 | false=>rw [bb] at af;exact af.elim
 | true=>
   rw [bb] at af;simp only [cond_true] at af;obtain ⟨dst,op,type,pos,after,guard⟩:=o;cases op with
   | defer c=>
     rcases aE with rfl | aE
     case inr=>cases aE
     simp only at af;cases guard with
     | some _=>exact af.elim
     | none=>
       simp only at af;obtain ⟨callee,args,types⟩:=c;simp only [Q'] at af;cases callee<;>simp only at af<;>try (exact af.elim)
       rename_i f;unfold Q_ at af;have az:=dH k.toRegRel0 f;generalize (bT f).run r=xD at af az;cases xD<;>simp only at af<;>try (exact af.elim)
       rename_i g cs;cases aZ:Nat.beq g dy with
       | true=>rw [aZ] at af;exact af.elim
       | false=>
         rw [aZ] at af;simp only [cond_false] at af;have Fj:g≠dy:=fun e=>by rw [e] at aZ;exact absurd aZ (by decide)
         simp only [Rel] at az;rcases az with ⟨_,eX,b4,aA⟩ | ⟨aB,_⟩
         case inr=>exact absurd aB Fj
         simp only [wpOpIn,ao,Region.wanted,if_true];refine ⟨fun _ _=>trivial,?_⟩;have hex:((Oper.mk dst (.defer ⟨.value f,args,types⟩) type pos after none).semAt (cw none).round a.eval).run P w=.ok (.defer {target:=.fn (.func g) eX,args:=#[]++args.map a.eval}) w:=by simp only [Oper.semAt_none,execOp,resolve,b4,Deferred.ofValue,pure_bind];rfl
         rw [hex];refine af E _ w (Env.le.refl E) (fF.put ?_ bb (by simp only [Rel];exact ⟨#[],rfl,rfl⟩)) s;refine ⟨⟨k.size,fun t av=>?_⟩,?_⟩
         rotate_left
         . rw [T.iq,if_pos rfl];simp only [lz,nP];refine ⟨_,_,rfl,⟨Fj,eX,rfl,?_⟩,k.defers.list⟩;have:=(qX k.toRegRel0 args.toList).append aA;simpa using this
         . rw [T.iq,if_neg (fun e=>xc av e.symm)];exact k.aq t av
   | binOp op t x y u=>
     simp only at af;cases guard with
     | some g=>exact GD bJ cY dI ao bb k s af
     | none=>
       simp only at af;cases lQ:xg P op t with
       | none=>rw [lQ] at af;exact GD bJ cY dI ao bb k s af
       | some neg=>
         rw [lQ] at af;simp only [VF] at af;cases aC:hs h ((bT x).run r) ((bT y).run r) with
         | none=>rw [aC] at af;exact GD bJ cY dI ao bb k s af
         | some b=>
           rw [aC] at af;simp only [wpOpIn,ao,Region.wanted,if_true];obtain ⟨Z,fI,cL⟩:=VD (P:=P) (fs:=x) (iy:=y) s lQ aC (dH k.toRegRel0 x) (dH k.toRegRel0 y);exact gJ rfl (df.plain s fI cL) fun ax v an ar aw aK=>af ax _ an ar ((k.mono ar).put bb aw) aK
   | _=>exact GD bJ cY dI ao bb k s af
theorem Va {rd:Option Nat} {ay:Fr} {call:dQ} (bJ:eO P) (cY:hi P call) (dI:ht P call) {all:Array Oper} {au:Nat} {Q:Exit->Act->World->Prop}:∀(l:List Oper) (i:Nat),(∀j,l[j]? =all[i+j]?)->(rd=none\/∀o ∈ l,LU o=true)->
 ∀(E:Env) (r:bI) (h:ah) (a:Act) (w:World),nY ay E au (Q .normal) Q ((CL P au all l).run call r h)->fF E au r a->bd ay E h w->
 wpOpsIn (cw rd) 0 P all Q (List.range' i l.length) a w
 | [],i,_,_,E,r,h,a,w,af,k,s=>by simp only [CL] at af;simp only [List.length_nil,List.range'_zero,wpOpsIn];exact af E a w (Env.le.refl E) k s
 | o::os,i,aA,aE,E,r,h,a,w,af,k,s=>by
   simp only [CL,Wn] at af;have ao:all[i]? =some o:=by have:=aA 0;simpa using this.symm
   rw [List.length_cons,List.range'_succ,wpOpsIn_cons];refine alh bJ cY dI ao (aE.imp id fun h=>h o (by simp)) k s ?_;cases aa:(GC P au all o).run call r h with
   | fail=>rw [aa] at af;exact af
   | cP v br q7=>rw [aa] at af;exact af
   | ok br q7=>
     rw [aa] at af;simp only at af;intro ax bw an ar aw aK;refine Va bJ cY dI os (i+1) (fun j=>?_) (aE.imp id fun h cj hp=>h cj (by simp [hp])) ax br q7 bw an (af.up ar) aw aK;have:=aA (j+1);simp only [List.getElem?_cons_succ] at this;rw [this];congr 1;omega
end
theorem Ry {a b:V} (h:EE a b=true):a=b:=by
 cases a<;>cases b<;>simp only [EE] at h<;>first
  | rfl
  | (cases h;done)
  | (rename_i x y;cases x<;>cases y<;>simp_all;done)
  | (rename_i k x l y
     simp only [Bool.and_eq_true] at h;have aa:=tS h.1;have ad:=h.2;rw [k_,beq_iff_eq] at ad;rw [aa,ad];done)
  | (rw [vA,beq_iff_eq] at h;rw [h];done)
  | (simp only [Bool.and_eq_true,Nat.beq_eq] at h
     obtain ⟨aa,ad,aJ,bG⟩:=h;rw [aQ.k_ aa,ad,aJ,bG];done)
  | (simp only [Bool.and_eq_true,Nat.beq_eq] at h
     rw [aQ.k_ h.1,h.2];done)
  | (rw [aQ.k_ h];done)
  | (simp only [Bool.and_eq_true,Nat.beq_eq,List.isEmpty_iff] at h
     obtain ⟨aa,ad,aJ⟩:=h;rw [aa,ad,aJ];done)
  | (simp only [Bool.and_eq_true,List.isEmpty_iff] at h
     rw [h.1,h.2];done)
theorem Jq {f:V->V->Bool} (az:∀a b,f a b=true->a=b):∀{a b:List V},yp f a b=true->a=b
 | [],[],_=>rfl
 | [],_::_,h=>by cases h
 | _::_,[],h=>by cases h
 | a::x,b::y,h=>by
   simp only [yp] at h;cases aa:f a b with
   | false=>rw [aa] at h;cases h
   | true=>
     rw [aa] at h;rw [az a b aa,Jq az h]
theorem Z0 {c x:Bool} (h:(bif c then x else false)=true):c=true/\x=true:=by
 cases c with
 | false=>cases h
 | true=>exact ⟨rfl,h⟩
theorem Rz:∀(d:Nat) (a b:V),vP d a b=true->a=b
 | 0,a,b,h=>Ry h
 | d+1,a,b,h=>by
   have bq:=Rz d;cases a<;>simp only [vP] at h<;>first
    | exact Ry h
    | (cases b<;>simp only at h<;>first
        | (cases h;done)
        | rfl
        | (rw [Jq bq h];done)
        | (obtain ⟨aa,ad⟩:=Z0 h
           rw [Nat.beq_eq] at aa;rw [aa]
           first
            | rw [Jq bq ad]
            | rw [bq _ _ ad]))
theorem Jr {a b:V} (h:Bi a b=true):a=b:=Rz 5 a b h
theorem A0 (m i:Nat):gi m i=m.testBit i:=by
 rw [Nat.testBit_eq_decide_div_mod_eq];unfold gi;have e:Nat.mod (Nat.shiftRight m i) 2=m / 2 ^ i % 2:=by show (m >>> i) % 2=_;rw [Nat.shiftRight_eq_div_pow]
 rw [e,Bool.eq_iff_iff,Nat.beq_eq,decide_eq_true_eq]
theorem LF {dU:List Nat} {i:Nat}:∀{es:List Edge},gi (uB dU es) i=true->∃e ∈ es,vB e=true/\(e.on=i\/gi ((dU[e.on]?).getD 0) i=true)
 | [],h=>by simp [uB,A0] at h
 | e::es,h=>by
   simp only [uB] at h;cases ae:vB e with
   | false=>
     rw [ae] at h;obtain ⟨cX,aa,ad⟩:=LF (es:=es) h;exact ⟨cX,by simp [aa],ad⟩
   | true=>
     rw [ae] at h;simp only [cond_true,A0] at h;have ab:((1 <<< e.on||| (dU[e.on]?).getD 0)||| uB dU es).testBit i=true:=h;rw [Nat.testBit_or,Nat.testBit_or,Bool.or_eq_true,Bool.or_eq_true] at ab;rcases ab with (aa | aa) | aa
     . refine ⟨e,by simp,ae,.inl ?_⟩;rw [Nat.testBit_shiftLeft] at aa;simp only [Bool.and_eq_true,decide_eq_true_eq] at aa;have:=aa.2;rw [Nat.testBit_one_eq_true_iff_self_eq_zero] at this;omega
     . exact ⟨e,by simp,ae,.inr (by rw [A0];exact aa)⟩
     . rw [<-A0] at aa;obtain ⟨cX,ar,aw⟩:=LF (es:=es) aa;exact ⟨cX,by simp [ar],aw⟩
def qH (ops:Array Oper) (L:Nat->Prop):Prop:=∀k o e,L k->ops[k]? =some o->e ∈ o.after.toList->vB e=true->L e.on
theorem Cu {ops:Array Oper} {L:Nat->Prop} (v7:qH ops L):∀(os:List Oper) (dU:List Nat),(∀j,os[j]? =ops[dU.length+j]?)->
 (∀k m i,dU[k]? =some m->gi m i=true->L k->L i)->∀k m i,(eT dU os)[k]? =some m->gi m i=true->L k->L i
 | [],dU,_,h,k,m,i,aH,ae,eL=>h k m i aH ae eL
 | o::os,dU,rb,h,k,m,i,aH,ae,eL=>by
   simp only [eT] at aH;refine Cu v7 os (dU++[uB dU o.after.toList]) (fun j=>?_) (fun k m i aH ae eL=>?_) k m i aH ae eL
   . have:=rb (j+1);simp only [List.getElem?_cons_succ] at this;rw [this];congr 1;simp;omega
   . by_cases aO:k<dU.length
     . rw [List.getElem?_append_left aO] at aH;exact h k m i aH ae eL
     . rw [List.getElem?_append_right (by omega)] at aH;have BB:k-dU.length=0:=by
        cases bn:k-dU.length with
        | zero=>rfl
        | succ n=>rw [bn] at aH;simp at aH
       rw [BB] at aH;simp only [List.getElem?_cons_zero,Option.some.injEq] at aH;subst aH;have Fp:k=dU.length:=by omega
       have a6:ops[k]? =some o:=by have:=rb 0;simp only [List.getElem?_cons_zero,Nat.add_zero] at this;rw [Fp];exact this.symm
       obtain ⟨e,he,JZ,h9⟩:=LF ae;have Sd:=v7 k o e eL a6 he JZ;rcases h9 with rfl | h9
       . exact Sd
       . cases hm:dU[e.on]? with
         | none=>rw [hm] at h9;simp [A0] at h9
         | some dt=>rw [hm] at h9;exact h e.on dt i hm h9 Sd
theorem qE {f:Nat->Nat->Oper->Bool}:∀{k:Nat} {ms:List Nat} {os:List Oper},nO f k ms os=true->∀j o,os[j]? =some o->∃m,ms[j]? =some m/\f (k+j) m o=true
 | _,_,[],_,j,o,h=>by simp at h
 | _,[],_::_,h,_,_,_=>by cases h
 | k,m::ms,cj::os,h,j,o,a6=>by
   simp only [nO,Bool.and_eq_true] at h;cases j with
   | zero=>simp only [List.getElem?_cons_zero,Option.some.injEq] at a6;subst a6;exact ⟨m,rfl,h.1⟩
   | succ j=>
     obtain ⟨dt,aa,ad⟩:=qE h.2 j o (by simpa using a6);exact ⟨dt,by simpa using aa,by rw [show k + (j+1)=k+1+j from by omega];exact ad⟩
theorem NH {f:Nat->Nat->Oper->Bool}:∀{k:Nat} {ms:List Nat} {os:List Oper},ms.length=os.length->(∀j m o,ms[j]? =some m->os[j]? =some o->f (k+j) m o=true)->nO f k ms os=true
 | _,[],[],_,_=>rfl
 | _,[],_::_,h,_=>by simp at h
 | _,_::_,[],h,_=>by simp at h
 | k,m::ms,o::os,h,az=>by simp only [nO,Bool.and_eq_true];refine ⟨az 0 m o rfl rfl,NH (by simpa using h) fun j dt cj aa ad=>?_⟩;have:=az (j+1) dt cj (by simpa using aa) (by simpa using ad);rw [show k+1+j=k + (j+1) from by omega];exact this
theorem LG:∀(os:List Oper) (dU:List Nat),(eT dU os).length=dU.length+os.length
 | [],dU=>rfl
 | o::os,dU=>by simp [eT,LG os];omega
section
variable {P:Program}
theorem Q1 {o:Oper} {call:dQ} {r:bI} {h ab:ah} {v:V} (aC:e' P o.op=false) (he:(fw P o).run call r h=.val v ab):ab=h:=by
 obtain ⟨dst,op,type,pos,after,guard⟩:=o;cases op<;>simp only [e'] at aC<;>try (cases aC;done)
 all_goals simp only [fw] at he
 case convert s d x=>
  unfold qR at he;cases aS:a' P s with
  | none=>rw [aS] at he;cases he
  | some uV=>
    cases bb:a' P d with
    | none=>rw [bb] at aC;cases aC
    | some o2=>
      rw [aS,bb] at he;rw [bb] at aC;simp only at he aC;cases hu:o2.bh with
      | int k=>
        rw [hu] at he;obtain ⟨bg,n,_,aa⟩:=s3 he;simp only [a7.val.injEq] at aa;exact aa.2.symm
      | slice e=>rw [hu] at aC;cases aC
      | string=>
        rw [hu] at he;simp only at he;have other:∀x:V,(match x with
         | .str s=>a7.val (.str s) h
         | .int _ n=>.val (.str (Utf8.encode n).data.toList) h
         | _=>.fail)=.val v ab->ab=h:=by
         intro x he;cases x<;>simp only at he<;>first
          | (cases he;done)
          | (simp only [a7.val.injEq] at he;exact he.2.symm)
        cases Ta:uV.bh with
        | slice e=>
          rw [Ta] at he;simp only at he;cases cu:a' P e with
          | none=>rw [cu] at he;cases he
          | some ba=>
            rw [cu] at he;simp only at he;have ant:∀b off len,uY b off len h=.val v ab->ab=h:=by
             intro b off len he;unfold uY at he;cases aB:h.get b<;>rw [aB] at he<;>simp only [cd.pE] at he<;>try (cases he;done)
             all_goals
              obtain ⟨_,ad⟩:=jJ he;cases af1:oM (lb _ off len)<;>rw [af1] at ad<;>first
               | (cases ad;done)
               | (simp only [a7.val.injEq] at ad;exact ad.2.symm)
            cases eR:ba.bh with
            | int Cg=>
              rw [eR] at he;cases Cg<;>simp only at he<;>try (cases he;done)
              simp only [tN] at he;cases ak:(bT x).run r<;>rw [ak] at he<;>simp only at he<;>first
               | (cases he;done)
               | exact ant _ _ _ he
               | (simp only [a7.val.injEq] at he;exact he.2.symm)
            | _=>rw [eR] at he;cases he
        | _=>rw [Ta] at he;exact other _ he
      | _=>rw [hu] at he;cases he
 case call c=>
  obtain ⟨callee,args,types⟩:=c;cases callee<;>simp only at aC<;>try (cases aC;done)
  rename_i b;simp only [sc] at he;cases b<;>simp only at aC<;>try (cases aC;done)
  . simp only [qQ] at he;cases fg:types.toList with
    | nil=>rw [fg] at he;simp [gr.none] at he
    | cons t cN=>
      cases cN with
      | cons _ _=>rw [fg] at he;simp [gr.none] at he
      | nil=>
        rw [fg] at he;simp only at he;cases av:a' P t with
        | none=>rw [av] at he;simp [gr.none] at he
        | some aR=>
          rw [av] at he;rw [fg] at aC;simp only [Le,av] at aC;simp only [aC,cond_false] at he
          split at he
          . exact (a7.iP he).2
          . cases he
  . exact (a7.iP he).2
  . exact (a7.iP he).2
 case move=>simp only [a7.val.injEq] at he;exact he.2.symm
 case assign=>simp only [a7.val.injEq] at he;exact he.2.symm
 case pick c a b=>
  split at he
  . simp only [a7.val.injEq] at he;exact he.2.symm
  . cases he
 case makeFunc fn first eX=>
  cases fn<;>simp only at he<;>try (simp [dq.none] at he;done)
  rename_i f;cases az:(first.isEmpty&&!Nat.beq f dy)<;>rw [az] at he
  . simp only [cond_false] at he;cases jO:(eX.isEmpty&&!Nat.beq f dy)<;>rw [jO] at he
    . simp [dq.none] at he
    . simp only [cond_true,a7.val.injEq] at he;exact he.2.symm
  . simp only [cond_true,a7.val.injEq] at he;exact he.2.symm
 case typeAssert x u6 t ok=>
  cases av:a' P t with
  | none=>rw [av] at he;simp [dq.none] at he
  | some aR=>
    rw [av] at he;simp only at he;cases ae:Nat.beq (fi aR.bh) 5<;>rw [ae] at he
    . exact (a7.iP he).2
    . simp [dq.none] at he
 case makeInterface t x=>
  cases av:a' P t with
  | none=>rw [av] at he;simp [dq.none] at he
  | some aR=>
    rw [av] at he;simp only at he;cases ae:Nat.beq (fi aR.bh) 5<;>rw [ae] at he
    . simp only [cond_false,a7.val.injEq] at he;exact he.2.symm
    . simp [dq.none] at he
 case extract x i=>
  split at he
  . exact (a7.iP he).2
  . cases he
 all_goals exact (a7.iP he).2
theorem a7.w' {h ab:ah} {x:Option V} {v:V} (he:a7.of h x=.val v ab) (H:ah):a7.of H x=.val v H:=by rw [(a7.iP he).1];rfl
theorem Q0 {o:Oper} {call:dQ} {r:bI} {h ab:ah} {v:V} (aC:e' P o.op=false) (aA:looks o.op=false) (he:(fw P o).run call r h=.val v ab) (H:ah):(fw P o).run call r H=.val v H:=by
 obtain ⟨dst,op,type,pos,after,guard⟩:=o;cases op<;>simp only [e'] at aC<;>try (cases aC;done)
 all_goals simp only [looks] at aA<;>try (cases aA;done)
 all_goals simp only [fw] at he ⊢
 case call c=>
  obtain ⟨callee,args,types⟩:=c;cases callee<;>simp only at aC<;>try (cases aC;done)
  rename_i b;simp only [sc] at he ⊢;cases b<;>simp only at aC<;>try (cases aC;done)
  . simp only [qQ] at he ⊢;cases fg:types.toList with
    | nil=>rw [fg] at he;simp [gr.none] at he
    | cons t cN=>
      cases cN with
      | cons _ _=>rw [fg] at he;simp [gr.none] at he
      | nil=>
        rw [fg] at he;simp only at he ⊢;cases av:a' P t with
        | none=>rw [av] at he;simp [gr.none] at he
        | some aR=>
          rw [av] at he;rw [fg] at aC;simp only [Le,av] at aC;simp only [aC,cond_false] at he ⊢
          split at he
          . exact a7.w' he H
          . cases he
  . exact a7.w' he H
  . exact a7.w' he H
 case move=>simp only [a7.val.injEq] at he;rw [he.1]
 case assign=>simp only [a7.val.injEq] at he;rw [he.1]
 case pick c a b=>
  split at he
  . simp only [a7.val.injEq] at he;rw [he.1]
  . cases he
 case makeFunc fn first eX=>
  cases fn<;>simp only at he ⊢<;>try (simp [dq.none] at he;done)
  rename_i f;cases az:(first.isEmpty&&!Nat.beq f dy)<;>rw [az] at he
  . simp only [cond_false] at he ⊢;cases jO:(eX.isEmpty&&!Nat.beq f dy)<;>rw [jO] at he
    . simp [dq.none] at he
    . simp only [cond_true,a7.val.injEq] at he ⊢;exact ⟨he.1,trivial⟩
  . simp only [cond_true,a7.val.injEq] at he ⊢;exact ⟨he.1,trivial⟩
 case typeAssert x u6 t ok=>
  cases av:a' P t with
  | none=>rw [av] at he;simp [dq.none] at he
  | some aR=>
    rw [av] at he;simp only at he ⊢;cases ae:Nat.beq (fi aR.bh) 5<;>rw [ae] at he
    . exact a7.w' he H
    . simp [dq.none] at he
 case makeInterface t x=>
  cases av:a' P t with
  | none=>rw [av] at he;simp [dq.none] at he
  | some aR=>
    rw [av] at he;simp only at he ⊢;cases ae:Nat.beq (fi aR.bh) 5<;>rw [ae] at he
    . simp only [cond_false,a7.val.injEq] at he ⊢;exact ⟨he.1,trivial⟩
    . simp [dq.none] at he
 case extract x i=>
  split at he
  . exact a7.w' he H
  . cases he
 all_goals exact a7.w' he H
end
section
variable {P:Program}
def HY (P:Program) (E:Env) (m:Sem Value) (v:V) (h ab:ah):Prop:=
 ∃k,ab=h.new k/\True/\∀w,∃X ej,m.run P w=.ok X {w with heap:=w.heap.push ej}/\
  ∀ax,E.le ax->ax (aj h.next)=some ⟨w.heap.size,0,0⟩->Rel ax v X/\∀B,B<=w.heap.size->hR B ax {w with heap:=w.heap.push ej} (aj h.next) k
theorem Gk {E:Env} {h ab:ah} {ai:List V} {l:List Value} (aA:bk E ai l) (he:gG h ai=some ab) (t:TypeId):
 ∃k,ab=h.new k/\True/\∀w,(newRow t l.toArray).run P w=.ok ⟨w.heap.size,0,none⟩ {w with heap:=w.heap.push (.cells l.toArray t)}/\
  ∀ax,E.le ax->ax (aj h.next)=some ⟨w.heap.size,0,0⟩->∀B,B<=w.heap.size->hR B ax {w with heap:=w.heap.push (.cells l.toArray t)} (aj h.next) k:=by
 unfold gG at he;obtain ⟨aD,he⟩:=eG he;rw [Nat.ble_eq] at aD;cases he;refine ⟨_,rfl,trivial,fun w=>⟨by simp [newRow],fun ax hle dT B da=>?_⟩⟩;have:=ET (bk.mono hle _ _ aA) aD #[]
 rw [Array.append_empty] at this;exact ⟨aD,_,_,t,(0,0),dT,da,by simp,.inr (Nat.le_refl _),fun _=>rfl,fun h=>absurd rfl h,this⟩
theorem aac {E:Env} {h ab:ah} {t:TypeId} {n:Nat} {bm:List (Nat × V)} {cv:List (Nat × Value)} {v:V} (af:r4 E bm cv) (he:(vE P t n).run bm h=.val v ab):
 HY P E (Instr.buildSlice t n cv.toArray) v h ab:=by
 unfold vE at he;cases av:a' P t with
 | none=>rw [av] at he;cases he
 | some aR=>
   rw [av] at he;simp only at he;have hu:=fK av;cases bU:aR.bh with
   | slice e=>
     rw [bU] at he hu;simp only at he;cases cu:a' P e with
     | none=>rw [cu] at he;cases he
     | some ba=>
       rw [cu] at he;simp only at he;cases bn:ba.zero with
       | none=>rw [bn] at he;cases he
       | some z=>
         rw [bn] at he;simp only at he;cases aD:(Nat.ble (n * ba.size) 1000000&&Nat.beq z.cells.length ba.size) with
         | false=>rw [aD] at he;cases he
         | true=>
           rw [aD] at he;simp only [cond_true] at he;simp only [Bool.and_eq_true,Nat.ble_eq,Nat.beq_eq] at aD;cases az:nb (fun i=>some (i * ba.size,ba.size)) (hG z.cells n) bm with
           | none=>rw [az] at he;cases he
           | some cs=>
             rw [az] at he;simp only at he;cases aV:gG h cs with
             | none=>rw [aV] at he;cases he
             | some aa=>
               rw [aV] at he;simp only [a7.val.injEq] at he;obtain ⟨rfl,rfl⟩:=he;obtain ⟨x,ak,ou,pe⟩:=tm (P:=P) (E:=E) cu bn ⟨#[],fun _ _=>0,0,default,#[]⟩;have sM:x.cells.size=ba.size:=by rw [pe,aD.2]
               have sG:=zT ou n;rw [sM] at sG;obtain ⟨b,ko,p0⟩:=Bj (a:=(Array.range (n * ba.size)).map (x.cells[· % x.cells.size]!)) af (by rw [sM];exact sG) az;obtain ⟨k,g1,g2,g3⟩:=Gk (P:=P) p0 aV e;refine ⟨k,g1,g2,fun w=>⟨.slice (some ⟨w.heap.size,0,none⟩) n n,.cells b e,?_,fun ax hle dT=>⟨?_,?_⟩⟩⟩
               . have wz:¬16777216<n * ba.size:=by omega
                 have kM:(newRow e b).run P w=.ok ⟨w.heap.size,0,none⟩ {w with heap:=w.heap.push (.cells b e)}:=by simpa using (g3 w).1
                 by_cases aW:n * ba.size=0
                 . have JW:Instr.fill (fun i=>some (i * ba.size,ba.size)) ((Array.range (n * ba.size)).map ((#[]:Array Value)[· % 0]!)) cv=some b:=by
                    have aP:(Array.range (n * ba.size)).map ((#[]:Array Value)[· % 0]!)=(Array.range (n * ba.size)).map (x.cells[· % x.cells.size]!):=by rw [aW];simp
                    rw [aP];exact ko
                   have JX:Instr.fill (fun i=>some (i * ba.size,ba.size)) ((Array.range (n * ba.size)).map (fun x=>(#[]:Array Value)[x % (#[]:Array Value).size]!)) cv=some b:=JW;simp only [Instr.buildSlice,Sem.run_bind,hu,Result.andThen_ok,kg cu,Sem.run_ite];rw [if_neg wz];simp only [Sem.run_pure,Result.andThen_ok,if_pos aW];rw [JX];simp only [Sem.run_bind,kM,Result.andThen_ok,Sem.run_pure]
                 . simp only [Instr.buildSlice,Sem.run_bind,hu,Result.andThen_ok,kg cu,Sem.run_ite];rw [if_neg wz];simp only [Sem.run_pure,Result.andThen_ok,if_neg aW,ak];rw [ko];simp only [Sem.run_bind,kM,Result.andThen_ok,Sem.run_pure]
               . simp only [Rel];exact ⟨_,dT,Nat.le_refl _,by simp⟩
               . simpa using (g3 w).2 ax hle dT
   | _=>rw [bU] at he;cases he
theorem ake {E:Env} {h ab:ah} {t:TypeId} {x y v:V} {X Y:Value} (ak:Rel E x X) (aZ:Rel E y Y) (he:(w2 P t).run x y h=.val v ab):
 HY P E (Instr.makeSlice t X Y) v h ab:=by
 unfold w2 at he;cases av:a' P t with
 | none=>rw [av] at he;cases he
 | some aR=>
   rw [av] at he;simp only at he;have hu:=fK av;cases bU:aR.bh with
   | slice e=>
     rw [bU] at he hu;simp only at he;cases cu:a' P e with
     | none=>rw [cu] at he;cases he
     | some ba=>
       rw [cu] at he;simp only at he;cases bn:ba.zero with
       | none=>rw [bn] at he;cases he
       | some z=>
         rw [bn] at he;simp only at he;cases wa:Nat.ble ba.bytes 4096 with
         | false=>rw [wa] at he;cases he
         | true=>
           rw [wa] at he;simp only [cond_true,sW] at he;obtain ⟨bz,l,rfl,yK⟩:=s3 he;obtain ⟨bx,c,rfl,eo⟩:=s3 yK;have:=ak.iZ;subst this;have:=aZ.iZ;subst this;obtain ⟨aD,p1⟩:=jJ eo;simp only [Bool.and_eq_true,oA,decide_eq_true_eq,Nat.beq_eq] at aD;obtain ⟨⟨aW,aa,ad⟩,aJ⟩:=aD;rw [Nat.ble_eq] at wa;cases aV:gG h (hG z.cells c.toNat) with
           | none=>rw [aV] at p1;cases p1
           | some bl=>
             rw [aV] at p1;simp only [a7.val.injEq] at p1;obtain ⟨rfl,rfl⟩:=p1;obtain ⟨lx,wK,ou,pe⟩:=tm (P:=P) (E:=E) cu bn ⟨#[],fun _ _=>0,0,default,#[]⟩;have sM:lx.cells.size=ba.size:=by rw [pe,aJ]
             have sG:=zT ou c.toNat;obtain ⟨k,g1,g2,g3⟩:=Gk (P:=P) sG aV e;have pd:IntKind.i64.wrap l=l:=by simp only [IntKind.wrap,IntKind.bits,IntKind.signed];simp;omega
             have K0:IntKind.i64.wrap c=c:=by simp only [IntKind.wrap,IntKind.bits,IntKind.signed];simp;omega
             have hmul:(ba.bytes:Int) * c<=4096 * 1000000:=by
              have ae:(ba.bytes:Int)<=4096:=by omega
              have:=Int.mul_le_mul_of_nonneg_right (c:=c) ae (by omega);omega
             refine ⟨k,g1,g2,fun w=>?_⟩;obtain ⟨i,ao,q9⟩:=GZ (P:=P) cu w;refine ⟨.slice (some ⟨w.heap.size,0,none⟩) l.toNat c.toNat,_,?_,fun ax hle dT=>⟨?_,(g3 w).2 ax hle dT⟩⟩
             . have kM:=(g3 w).1;simp only [Array.toArray_toList] at kM;have bP:¬c<0:=by omega
               have bX:¬((ba.bytes:Int) * c>281474976710656):=by omega
               have c3:¬l<0:=by omega
               have eF:¬l>c:=by omega
               have same:(if c.toNat * ba.size=0 then (Array.range (c.toNat * ba.size)).map (fun x=>(#[]:Array Value)[x % (#[]:Array Value).size]!) else (Array.range (c.toNat * ba.size)).map (fun x=>lx.cells[x % lx.cells.size]!))=
                (Array.range (c.toNat * lx.cells.size)).map (lx.cells[· % lx.cells.size]!):=by
                rw [sM];by_cases aC:c.toNat * ba.size=0
                . rw [aC];simp
                . rw [if_neg aC]
               simp only [Instr.makeSlice,Sem.run_bind,hu,Result.andThen_ok,asInt,asIntOf,Sem.run_pure,ao,pd,K0,q9];rw [if_neg (by simp only [Bool.or_eq_true,decide_eq_true_eq,not_or];exact ⟨⟨⟨bP,bX⟩,c3⟩,eF⟩)];simp only [Result.andThen_ok,Sem.run_bind,run_askRoom,kg cu];by_cases aC:c.toNat * ba.size=0
               . rw [if_pos aC] at same;rw [if_pos aC];simp only [Sem.run_pure,Result.andThen_ok,Sem.run_bind,same,kM,Array.toArray_toList]
               . rw [if_neg aC] at same;rw [if_neg aC];simp only [Sem.run_pure,Result.andThen_ok,Sem.run_bind,wK,same,kM,Array.toArray_toList]
             . simp only [Rel];exact ⟨_,dT,by omega,by simp⟩
   | _=>rw [bU] at he;cases he
theorem abZ {E:Env} {h ab:ah} {call:dQ} {o:Oper} {au:Nat} {r:bI} {a:Act} {v:V} (a1:hb o=true) (he:(fw P o).run call r h=.val v ab) (k:RegRel0 E au r a):
 ∃m:Sem Value,execOp a.eval o=(do pure (.value (<-m)))/\HY P E m v h ab:=by
 obtain ⟨dst,op,type,pos,after,guard⟩:=o;cases op<;>simp only [hb] at a1<;>try (cases a1;done)
 all_goals simp only [fw] at he
 case alloc t=>
  refine ⟨Instr.alloc t true (.tuple #[]),rfl,?_⟩;cases av:a' P t with
  | none=>rw [av] at he;simp [dq.none] at he
  | some aR=>
    rw [av] at he;simp only at he;cases bn:aR.zero with
    | none=>rw [bn] at he;simp [dq.none] at he
    | some z=>
      rw [bn] at he;simp only at he;cases aV:gG h z.cells with
      | none=>rw [aV] at he;cases he
      | some aa=>
        rw [aV] at he;simp only [hr,a7.val.injEq] at he;obtain ⟨rfl,rfl⟩:=he;obtain ⟨x,ak,ou,_⟩:=tm (P:=P) (E:=E) av bn ⟨#[],fun _ _=>0,0,default,#[]⟩;obtain ⟨dj,g1,g2,g3⟩:=Gk (P:=P) ou aV t;refine ⟨dj,g1,g2,fun w=>⟨.pointer (some ⟨w.heap.size,0,none⟩),.cells x.cells t,?_,fun ax hle dT=>⟨?_,?_⟩⟩⟩
        . have:=(g3 w).1;simp only [Array.toArray_toList] at this;simp only [Instr.alloc,Sem.run_bind,ak,Result.andThen_ok,newVar,this,Sem.run_pure]
        . simp only [Rel];exact ⟨_,dT,by simp⟩
        . simpa using (g3 w).2 ax hle dT
 case box t x=>
  refine ⟨Instr.box t (a.eval x),rfl,?_⟩;obtain ⟨aB,he⟩:=jJ he;cases aV:gG h ((bT x).run r).cells with
  | none=>rw [aV] at he;cases he
  | some aa=>
    rw [aV] at he;simp only [hr,a7.val.injEq] at he;obtain ⟨rfl,rfl⟩:=he;have aA:=(dH k x).cells (fun e=>by rw [e] at aB;cases aB);obtain ⟨dj,g1,g2,g3⟩:=Gk (P:=P) aA aV t;refine ⟨dj,g1,g2,fun w=>⟨.pointer (some ⟨w.heap.size,0,none⟩),.cells (a.eval x).cells t,?_,fun ax hle dT=>⟨?_,?_⟩⟩⟩
    . have:=(g3 w).1;simp only [Array.toArray_toList] at this;simp only [Instr.box,Sem.run_bind,newVar,this,Result.andThen_ok,Sem.run_pure]
    . simp only [Rel];exact ⟨_,dT,by simp⟩
    . simpa using (g3 w).2 ax hle dT
 case buildSlice t n bm=>
  refine ⟨Instr.buildSlice t n (bm.map fun (i,x)=>(i,a.eval x)),rfl,?_⟩;rw [Mc];exact aac (GH k bm.toList) he
 case makeSlice t l c=>exact ⟨Instr.makeSlice t (a.eval l) (a.eval c),rfl,ake (dH k l) (dH k c) he⟩
 case makeMap t x=>
  cases x with
  | some _=>cases a1
  | none=>
    refine ⟨Instr.makeMap t none,rfl,?_⟩;simp only [rF,zv] at he;cases av:a' P t with
    | none=>rw [av] at he;cases he
    | some aR=>
      rw [av] at he;simp only at he;cases ae:Nat.beq (fi aR.bh) 3 with
      | false=>rw [ae] at he;cases he
      | true=>
        rw [ae] at he;simp only [cond_true,sV,zw] at he;simp only [a7.val.injEq] at he;obtain ⟨rfl,rfl⟩:=he;refine ⟨_,rfl,trivial,fun w=>⟨.map (some w.heap.size),.map #[] 0,?_,fun ax hle dT=>⟨?_,fun B da=>?_⟩⟩⟩
        . simp only [Instr.makeMap,Sem.run_bind,run_newObj,Result.andThen_ok,Sem.run_pure]
        . simp only [Rel];exact ⟨_,dT,rfl⟩
        . exact ⟨_,#[],dT,da,by simp,rfl⟩
def Fr.hold (F:Fr) (b:aQ) (k:cd):Fr:=⟨F.w,fun bL=>if bL=b then some k else F.er bL⟩
def Fr.free (F:Fr) (b:aQ):Fr:=⟨F.w,fun bL=>if bL=b then none else F.er bL⟩
theorem bd.hold {F:Fr} {E:Env} {h:ah} {w:World} (s:bd F E h w) (k:cd):bd (F.hold (aj h.next) k) E (h.new k) w:=by
 have dE:=s.fresh h.next (Nat.le_refl _)
 refine ⟨fun b ae=>?_,fun b bg aH=>?_,fun b bL p p' aa ad aP bf iG=>?_,fun i ao=>s.fresh i (Nat.le_of_succ_le ao),s.frame,s.laid,fun b p n cs st aa aP=>s.base b p n cs st (by
  have cT:aj h.next≠b:=fun e=>by rw [<-e,dE] at aP;cases aP
  rwa [ah.iE,if_neg cT] at aa) aP⟩
 . simp only [Fr.hold] at ae;by_cases aC:b=aj h.next
   . rw [if_pos aC] at ae;cases ae
   . rw [if_neg aC] at ae;rw [ah.iE,if_neg (fun e=>aC e.symm)];exact s.aN b ae
 . simp only [Fr.hold] at aH;by_cases aC:b=aj h.next
   . rw [if_pos aC] at aH;cases aH;exact ⟨by rw [ah.iE,if_pos aC.symm],by rw [aC];exact dE,h.next,Nat.lt_succ_self _,aC⟩
   . rw [if_neg aC] at aH;obtain ⟨ar,aw,i,aK,bY⟩:=s.qt b bg aH;exact ⟨by rw [ah.iE,if_neg (fun e=>aC e.symm)];exact ar,aw,i,Nat.lt_succ_of_lt aK,bY⟩
 . have cT:aj h.next≠b:=fun e=>by rw [<-e,dE] at aP;cases aP
   have gP:aj h.next≠bL:=fun e=>by rw [<-e,dE] at bf;cases bf
   rw [ah.iE,if_neg cT] at aa;rw [ah.iE,if_neg gP] at ad;exact s.inj b bL p p' aa ad aP bf iG
theorem bd.link {F:Fr} {E:Env} {h:ah} {w:World} (s:bd F E h w) {b:aQ} {k:cd} (af:F.er b=some k) {o:Obj}
 (kt:hR F.w.heap.size (E.put b ⟨w.heap.size,0,0⟩) {w with heap:=w.heap.push o} b k):
 E.le (E.put b ⟨w.heap.size,0,0⟩)/\bd (F.free b) (E.put b ⟨w.heap.size,0,0⟩) h {w with heap:=w.heap.push o}:=by
 obtain ⟨aH,dE,i0,wq,nh⟩:=s.qt b k af;have hle:E.le (E.put b ⟨w.heap.size,0,0⟩):=Env.l1 dE;have dT:E.put b ⟨w.heap.size,0,0⟩ b=some ⟨w.heap.size,0,0⟩:=by unfold Env.put;rw [if_pos rfl]
 have hold:∀bL,bL≠b->E.put b ⟨w.heap.size,0,0⟩ bL=E bL:=by intro bL ae;unfold Env.put;rw [if_neg ae]
 have kp:∀bL q,E bL=some q->(h.get bL)≠.dead->q.aN<w.heap.size:=by
  intro bL q aC bb;have ae:=s.at aC;cases aB:h.get bL with
  | dead=>exact absurd aB bb
  | view n cs=>rw [aB] at ae;obtain ⟨_,dV,c,el,b5,e,_,bl,_⟩:=ae;rw [e] at aC;cases aC;exact (Array.getElem?_eq_some_iff.1 bl).1
  | cells n cs cQ st=>rw [aB] at ae;obtain ⟨_,dV,c,el,b5,e,_,bl,_⟩:=ae;rw [e] at aC;cases aC;exact (Array.getElem?_eq_some_iff.1 bl).1
  | iter st pos=>rw [aB] at ae;obtain ⟨dV,e,_,_,bl⟩:=ae;rw [e] at aC;cases aC;exact (Array.getElem?_eq_some_iff.1 bl).1
  | mp es clock=>rw [aB] at ae;obtain ⟨dV,a,e,_,bl,_⟩:=ae;rw [e] at aC;cases aC;exact (Array.getElem?_eq_some_iff.1 bl).1
  | dA l=>rw [aB] at ae;obtain ⟨dV,a,e,_,bl,_⟩:=ae;rw [e] at aC;cases aC;exact (Array.getElem?_eq_some_iff.1 bl).1
  | f_=>rw [aB] at ae;obtain ⟨dV,e,_,bl⟩:=ae;rw [e] at aC;cases aC;exact (Array.getElem?_eq_some_iff.1 bl).1
  | jW es=>rw [aB] at ae;obtain ⟨dV,a,c,l,e,_,bl,_⟩:=ae;rw [e] at aC;cases aC;exact (Array.getElem?_eq_some_iff.1 bl).1
  | jV src since seen last=>rw [aB] at ae;obtain ⟨dV,m,a,e,_,_,bl,_⟩:=ae;rw [e] at aC;cases aC;exact (Array.getElem?_eq_some_iff.1 bl).1
 refine ⟨hle,fun bL e9=>?_,fun bL bg g'=>?_,fun cb ca bW bV aa ad aP bf iG=>?_,fun i ao=>?_,⟨s.frame.os,s.frame.tape,s.frame.output,?_,fun j aU=>?_⟩,s.laid,fun cb bW n cs st aa aP=>by
  by_cases bP:cb=b
  . subst bP;rw [dT] at aP;cases aP;rfl
  . rw [hold cb bP] at aP;exact s.base _ _ _ _ _ aa aP⟩
 . by_cases aC:bL=b
   . subst aC;rw [aH];exact kt
   . simp only [Fr.free,if_neg aC] at e9;have aW:=(s.aN bL e9).mono hle;by_cases bb:h.get bL=.dead
     . rw [bb];trivial
     . refine hR.hE aW fun q oo=>?_;rw [hold bL aC] at oo;have:=kp bL q oo bb;simp only [Array.getElem?_push];rw [if_neg (by omega)]
 . simp only [Fr.free] at g';by_cases aC:bL=b
   . rw [if_pos aC] at g';cases g'
   . rw [if_neg aC] at g';obtain ⟨ar,aw,aK⟩:=s.qt bL bg g';exact ⟨ar,by rw [hold bL aC];exact aw,aK⟩
 . by_cases bP:cb=b<;>by_cases bX:ca=b
   . exact bP.trans bX.symm
   . subst bP;rw [dT] at aP;cases aP;rw [hold ca bX] at bf;have:=kp ca bV bf (fun e=>by rw [e] at ad;cases ad);simp only at iG;omega
   . subst bX;rw [dT] at bf;cases bf;rw [hold cb bP] at aP;have:=kp cb bW aP (fun e=>by rw [e] at aa;cases aa);simp only at iG;omega
   . rw [hold cb bP] at aP;rw [hold ca bX] at bf;exact s.inj cb ca bW bV aa ad aP bf iG
 . rw [hold _ (fun e=>?_)]
   . exact s.fresh i ao
   . rw [nh] at e;have:=fj e;omega
 . have:=s.frame.size;simp only [Array.size_push,Fr.free];omega
 . have aa:=s.frame.size;simp only [Fr.free,Array.getElem?_push];rw [if_neg (by simp only [Fr.free] at aU;omega)];exact s.frame.block j aU
end
section
variable {P:Program}
def et (es:List e2) (c8:bI) (i:Nat):bI:=
 match es[i]? with
 | some e=>e.r
 | none=>c8
theorem yL (e:e2) (es:List e2) (az:ah) (i:Nat):cn (e::es) az (i+1)=cn es az i:=by simp [cn]
theorem zS (e:e2) (es:List e2) (c8:bI) (i:Nat):et (e::es) c8 (i+1)=et es c8 i:=by simp [et]
theorem uX {au:Nat} {all:Array Oper} {call:dQ}:∀{l:List Oper} {r c8:bI} {h az:ah} {es:List e2},(fO P au all l).run call r h=.ok es c8 az->
 es.length=l.length/\cn es az 0=h/\et es c8 0=r/\∀j o,l[j]? =some o->∃e,es[j]? =some e/\(cG P au all o).run call e.r e.h=.val e.v (cn es az (j+1))/\et es c8 (j+1)=(fX o.dst).run e.r e.v
 | [],r,c8,h,az,es,he=>by simp only [fO,qG.ok.injEq] at he;obtain ⟨rfl,rfl,rfl⟩:=he;exact ⟨rfl,rfl,rfl,fun j o a6=>by simp at a6⟩
 | o::os,r,c8,h,az,es,he=>by
   simp only [fO,C6] at he;cases aa:(cG P au all o).run call r h with
   | fail=>rw [aa] at he;cases he
   | cP _ _=>rw [aa] at he;simp only at he;cases hm:l4 o.op<;>rw [hm] at he<;>cases he
   | val v bl=>
     rw [aa] at he;simp only at he;cases ad:(fO P au all os).run call ((fX o.dst).run r v) bl with
     | fail=>rw [ad] at he;cases he
     | cP _ _ _ _ _=>rw [ad] at he;cases he
     | ok hX br aJ=>
       rw [ad] at he;simp only [qG.ok.injEq] at he;obtain ⟨rfl,rfl,rfl⟩:=he;obtain ⟨ar,aw,aK,bY⟩:=uX ad;refine ⟨by simp [ar],by simp [cn],by simp [et],fun j cj a6=>?_⟩;cases j with
       | zero=>
         simp only [List.getElem?_cons_zero,Option.some.injEq] at a6;subst a6;exact ⟨⟨r,h,v⟩,rfl,by rw [yL,aw];exact aa,by rw [zS,aK]⟩
       | succ j=>
         obtain ⟨e,bW,bV,b8⟩:=bY j cj (by simpa using a6);exact ⟨e,by simpa using bW,by rw [yL];exact bV,by rw [zS];exact b8⟩
theorem WU {au:Nat} {all:Array Oper} {call:dQ}:∀{l:List Oper} {r c8:bI} {h az ab:ah} {es:List e2} {v:V},(fO P au all l).run call r h=.cP es c8 az v ab->
 cn es az 0=h/\et es c8 0=r/\(∀j o,j<es.length->l[j]? =some o->∃e,es[j]? =some e/\(cG P au all o).run call e.r e.h=.val e.v (cn es az (j+1))/\et es c8 (j+1)=(fX o.dst).run e.r e.v)/\
  ∃o,l[es.length]? =some o/\l4 o.op=true/\(cG P au all o).run call c8 az=.cP v ab
 | [],r,c8,h,az,ab,es,v,he=>by simp [fO] at he
 | o::os,r,c8,h,az,ab,es,v,he=>by
   simp only [fO,C6] at he;cases aa:(cG P au all o).run call r h with
   | fail=>rw [aa] at he;cases he
   | cP x ak=>
     rw [aa] at he;simp only at he;cases hm:l4 o.op with
     | false=>rw [hm] at he;cases he
     | true=>
       rw [hm] at he;simp only [cond_true,qG.cP.injEq] at he;obtain ⟨rfl,rfl,rfl,rfl,rfl⟩:=he;exact ⟨rfl,rfl,fun j cj aU=>by simp at aU,o,rfl,hm,aa⟩
   | val x bl=>
     rw [aa] at he;simp only at he;cases ad:(fO P au all os).run call ((fX o.dst).run r x) bl with
     | fail=>rw [ad] at he;cases he
     | ok _ _ _=>rw [ad] at he;cases he
     | cP hX br aJ v1 bG=>
       rw [ad] at he;simp only [qG.cP.injEq] at he;obtain ⟨rfl,rfl,rfl,rfl,rfl⟩:=he;obtain ⟨aw,aK,bY,db,ek,fk,h3⟩:=WU ad;refine ⟨by simp [cn],by simp [et],fun j cj aU a6=>?_,db,by simpa using ek,fk,h3⟩;cases j with
       | zero=>
         simp only [List.getElem?_cons_zero,Option.some.injEq] at a6;subst a6;exact ⟨⟨r,h,x⟩,rfl,by rw [yL,aw];exact aa,by rw [zS,aK]⟩
       | succ j=>
         obtain ⟨e,bW,bV,b8⟩:=bY j cj (by simpa using aU) (by simpa using a6);exact ⟨e,by simpa using bW,by rw [yL];exact bV,by rw [zS];exact b8⟩
theorem R3 {au:Nat} {d:Option Nat} (bb:e7 au d=true) {r:bI} {v:V} {t:Nat} (av:t<=top):T.get .bad (aj t) ((fX d).run r v)=if d=some t then v else T.get .bad (aj t) r:=by
 cases d with
 | none=>simp [fX]
 | some d=>
   simp only [e7,Bool.and_eq_true,Nat.blt_eq,Nat.ble_eq] at bb;simp only [fX,T.iq,Option.some.injEq];by_cases h:d=t
   . subst h;simp
   . rw [if_neg (fun e=>h (fj e)),if_neg h]
theorem kH {au:Nat} {all:Array Oper} {o:Oper} {call:dQ} {r:bI} {h ab:ah} {v:V} (he:(cG P au all o).run call r h=.val v ab):e7 au o.dst=true/\j2 (b7 all o)=true:=by
 unfold cG at he;cases aD:(e7 au o.dst&&j2 (b7 all o)) with
 | false=>rw [aD] at he;simp [dq.none] at he
 | true=>simpa using aD
theorem Nk {r:bI} {rs:List Nat} (aS:j2 rs=true) {t:Nat} (av:t<=top):T.get .bad (aj t) (dx r rs)=if t ∈ rs then T.get .bad (aj t) r else .bad:=by
 induction rs with
 | nil=>simp [dx]
 | cons u rs bq=>
   simp only [j2,List.all_cons,Bool.and_eq_true,Nat.ble_eq] at aS;simp only [dx,T.iq,List.mem_cons];by_cases h:u=t
   . subst h;simp
   . rw [if_neg (fun e=>h (fj e)),bq aS.2];have ab:¬t=u:=fun e=>h e.symm;simp [ab]
theorem Rb {au:Nat} {all:Array Oper} {o:Oper} {call:dQ} {r:bI} {h ab:ah} {v:V} (he:(cG P au all o).run call r h=.cP v ab):e7 au o.dst=true/\j2 (b7 all o)=true:=by
 unfold cG at he;cases aD:(e7 au o.dst&&j2 (b7 all o)) with
 | false=>rw [aD] at he;simp [dq.none] at he
 | true=>simpa using aD
def H3 (ay:Fr) (E:Env) (o:Oper) (a:Act) (K:Act->World->Prop) (Q:Exit->Act->World->Prop):a7->Prop
 | .val v ab=>∀ax x an,E.le ax->Rel ax v x->bd ay ax ab an->K (a.put o.dst x) an
 | .cP v ab=>l4 o.op=true/\∀ax x an,E.le ax->Rel ax v x->bd ay ax ab an->Q (.panic (qq x)) a an
 | .fail=>False
theorem Rc {rd:Option Nat} {ay:Fr} {E:Env} {h:ah} {w:World} {call:dQ} (bJ:eO P) (cY:hi P call) (dI:ht P call) {all:Array Oper} {i:Nat} {o:Oper} (ao:all[i]? =some o) {au:Nat} {r:bI} {a:Act}
 (gC:e7 au o.dst=true/\j2 (b7 all o)=true) (p_:a.tmps.size=au) (kP:∀t ∈ b7 all o,Rel E (T.get .bad (aj t) r) (a.tmps.getD t undef)) (s:bd ay E h w)
 {K:Act->World->Prop} {Q:Exit->Act->World->Prop} (af:H3 ay E o a K Q ((cG P au all o).run call r h)):wpOpIn (cw rd) 0 P all Q i K a w:=by
 obtain ⟨bb,aS⟩:=gC;have k:RegRel0 E au (dx r (b7 all o)) a:=⟨p_,fun t av=>by
  rw [Nk aS av];by_cases hm:t ∈ b7 all o
  . rw [if_pos hm];exact kP t hm
  . rw [if_neg hm];simp [Rel]⟩
 unfold cG at af;rw [show (e7 au o.dst&&j2 (b7 all o))=true from by rw [bb,aS];rfl] at af;simp only [cond_true] at af;have wanted:H3 ay E o a K Q ((fw P o).run call (dx r (b7 all o)) h)->Region.wanted o (yielded all a.tmps)=true->wpOpIn (cw rd) 0 P all Q i K a w:=by
  intro aa hw;simp only [wpOpIn,ao,hw,if_true];cases aE:(fw P o).run call (dx r (b7 all o)) h with
  | fail=>rw [aE] at aa;exact aa.elim
  | val v ab=>rw [aE] at aa;exact Q2 bJ cY dI aE k s aa
  | cP v ab=>rw [aE] at aa;exact QZ bJ cY aa.1 aE k s aa.2
 have Xm:H3 ay E o a K Q (.val (.tuple []) h)->Region.wanted o (yielded all a.tmps)=false->wpOpIn (cw rd) 0 P all Q i K a w:=by intro aa hw;simp only [wpOpIn,ao,hw,Bool.false_eq_true,if_false];exact ⟨fun _ _=>trivial,aa E undef w (Env.le.refl E) (by simp only [Rel];exact ⟨#[],rfl,rfl⟩) s⟩
 cases aB:o.guard with
 | none=>
   rw [aB] at af;exact wanted af (by simp [Region.wanted,aB])
 | some qd=>
   obtain ⟨j,want⟩:=qd;rw [aB] at af;simp only at af;cases aU:all[j]? with
   | none=>rw [aU] at af;exact af.elim
   | some g=>
     rw [aU] at af;simp only at af;cases kN:g.dst with
     | none=>rw [kN] at af;exact af.elim
     | some d=>
       rw [kN] at af;simp only at af;cases aD:(Nat.blt d au&&Nat.ble d top) with
       | false=>rw [aD] at af;exact af.elim
       | true=>
         rw [aD] at af;simp only [cond_true,jj,o6] at af;simp only [Bool.and_eq_true,Nat.blt_eq,Nat.ble_eq] at aD;obtain ⟨g1,g2⟩:=JI k aU kN aD.1 aD.2;cases bj:T.get .bad (aj d) (dx r (b7 all o))<;>rw [bj] at af<;>simp only at af<;>try (exact af.elim)
         . rename_i b;have aZ:=g1 b bj;cases ae:(bif want then b else !b) with
           | true=>
             rw [ae] at af;simp only [cond_true] at af;refine wanted af ?_;simp only [Region.wanted,aB,aZ];cases want<;>cases b<;>simp_all
           | false=>
             rw [ae] at af;simp only [cond_false] at af;refine Xm af ?_;simp only [Region.wanted,aB,aZ];cases want<;>cases b<;>simp_all
         . rename_i ai;have aZ:=g2 ai bj;refine Xm af ?_;simp only [Region.wanted,aB,aZ];rfl
theorem qS {rd:Option Nat} {ay:Fr} {E:Env} {h ab:ah} {w:World} {call:dQ} (bJ:eO P) (cY:hi P call) (dI:ht P call) {all:Array Oper} {i:Nat} {o:Oper} (ao:all[i]? =some o) {au:Nat} {r:bI} {a:Act} {v:V}
 (he:(cG P au all o).run call r h=.val v ab) (p_:a.tmps.size=au) (kP:∀t ∈ b7 all o,Rel E (T.get .bad (aj t) r) (a.tmps.getD t undef)) (s:bd ay E h w)
 {K:Act->World->Prop} {Q:Exit->Act->World->Prop} (dO:∀ax x an,E.le ax->Rel ax v x->bd ay ax ab an->K (a.put o.dst x) an):wpOpIn (cw rd) 0 P all Q i K a w:=
 Rc bJ cY dI ao (kH he) p_ kP s (by rw [he];exact dO)
theorem acm {rd:Option Nat} {ay:Fr} {E:Env} {h ab:ah} {w:World} {call:dQ} (bJ:eO P) (cY:hi P call) (dI:ht P call) {all:Array Oper} {i:Nat} {o:Oper} (ao:all[i]? =some o) {au:Nat} {r:bI} {a:Act} {v:V}
 (he:(cG P au all o).run call r h=.cP v ab) (hm:l4 o.op=true) (p_:a.tmps.size=au) (kP:∀t ∈ b7 all o,Rel E (T.get .bad (aj t) r) (a.tmps.getD t undef)) (s:bd ay E h w)
 {K:Act->World->Prop} {Q:Exit->Act->World->Prop} (cM:∀ax x an,E.le ax->Rel ax v x->bd ay ax ab an->Q (.panic (qq x)) a an):wpOpIn (cw rd) 0 P all Q i K a w:=
 Rc bJ cY dI ao (Rb he) p_ kP s (by rw [he];exact ⟨hm,cM⟩)
theorem vJ {au:Nat} {all:Array Oper} {o:Oper} {call:dQ} {r:bI} {h ab:ah} {v:V} (aC:e' P o.op=false) (he:(cG P au all o).run call r h=.val v ab):
 ab=h/\(looks o.op=false->∀H,(cG P au all o).run call r H=.val v H):=by
 obtain ⟨bb,aS⟩:=kH he;have c_:(e7 au o.dst&&j2 (b7 all o))=true:=by rw [bb,aS];rfl
 have key:cG P au all o=(match o.guard with
  | none=>⟨jj none (fw P o) (b7 all o)⟩
  | some (j,want)=>match all[j]? with
    | some g=>match g.dst with
      | some d=>bif Nat.blt d au&&Nat.ble d top then ⟨jj (some (o6 (aj d),want)) (fw P o) (b7 all o)⟩ else dq.none
      | none=>dq.none
    | none=>dq.none):=by
  unfold cG;rw [c_];rfl
 rw [key] at he ⊢;cases aB:o.guard with
 | none=>
   rw [aB] at he;exact ⟨Q1 aC he,fun aA H=>Q0 aC aA he H⟩
 | some qd=>
   obtain ⟨j,want⟩:=qd;rw [aB] at he;simp only at he ⊢;cases aU:all[j]? with
   | none=>rw [aU] at he;simp [dq.none] at he
   | some g=>
     rw [aU] at he;simp only at he ⊢;cases kN:g.dst with
     | none=>rw [kN] at he;simp [dq.none] at he
     | some d=>
       rw [kN] at he;simp only at he ⊢;cases aD:(Nat.blt d au&&Nat.ble d top) with
       | false=>rw [aD] at he;simp [dq.none] at he
       | true=>
         rw [aD] at he;simp only [cond_true,jj] at he ⊢;cases bj:(o6 (aj d)).run (dx r (b7 all o))<;>rw [bj] at he<;>simp only at he ⊢<;>try (cases he;done)
         . rename_i b;cases ae:(bif want then b else !b)<;>rw [ae] at he<;>simp only [cond_true,cond_false] at he ⊢
           . simp only [a7.val.injEq] at he ⊢;exact ⟨he.2.symm,fun _ H=>⟨he.1,trivial⟩⟩
           . exact ⟨Q1 aC he,fun aA H=>Q0 aC aA he H⟩
         . simp only [a7.val.injEq] at he ⊢;exact ⟨he.2.symm,fun _ H=>⟨he.1,trivial⟩⟩
theorem O1 {op:dq} {call:dQ} {es:List e2} {az:ah} {r:bI} {v:V}:∀{fN:List Nat},D_ op call es az r v fN=true->∀s ∈ fN,∃ab,op.run call r (cn es az s)=.val v ab
 | [],_,s,h=>by simp at h
 | hO::fN,he,s,hm=>by
   simp only [D_,Bool.and_eq_true] at he;simp only [List.mem_cons] at hm;rcases hm with rfl | hm
   . have aa:=he.1;cases aE:op.run call r (cn es az s) with
     | fail=>rw [aE] at aa;cases aa
     | cP _ _=>rw [aE] at aa;cases aa
     | val dd ab=>
       rw [aE] at aa;rw [Jr aa];exact ⟨ab,rfl⟩
   . exact O1 he.2 s hm
theorem Ii {au:Nat} {all:Array Oper} {dU aF ez:List Nat} {call:dQ} {es:List e2} {az:ah}:∀{l:List Oper} {i:Nat},(r9 P au all dU aF ez i l).run call es az=true->
 ∀j o,l[j]? =some o->looks o.op=true->e' P o.op=false->∀e,es[posOf aF (i+j)]? =some e->∀s ∈ ez,sY P dU all.toList aF (i+j) ((dU[i+j]?).getD 0) s=true->∃ab,(cG P au all o).run call e.r (cn es az s)=.val e.v ab
 | [],_,_,j,o,a6,_,_=>by simp at a6
 | cj::os,i,he,j,o,a6,aA,aC=>by
   simp only [r9] at he;cases j with
   | zero=>
     simp only [List.getElem?_cons_zero,Option.some.injEq] at a6;subst a6;rw [aA,aC] at he;simp only [Bool.not_false,Bool.and_true,cond_true,Bool.and_eq_true,O2] at he;have aa:=he.1;intro e o9 s aS hm
     . rw [Nat.add_zero] at o9;rw [o9] at aa;exact O1 aa s (List.mem_filter.2 ⟨aS,by simpa using hm⟩)
   | succ j=>
     have rest:(r9 P au all dU aF ez (i+1) os).run call es az=true:=by
      cases aD:(looks cj.op&&!e' P cj.op) with
      | false=>rw [aD] at he;exact he
      | true=>rw [aD] at he;simp only [cond_true,Bool.and_eq_true] at he;exact he.2
     have:=Ii rest j o (by simpa using a6) aA aC;rw [show i + (j+1)=i+1+j from by omega];exact this
theorem zs {aF:List Nat}:∀{l:List Oper} {i j:Nat} {o:Oper},l[j]? =some o->ei P o=true->posOf aF (i+j) ∈ h0 P aF i l
 | [],_,j,o,h,_=>by simp at h
 | cj::os,i,j,o,h,he=>by
   simp only [h0];cases j with
   | zero=>
     simp only [List.getElem?_cons_zero,Option.some.injEq] at h;subst h;rw [he];simp
   | succ j=>
     have:=zs (aF:=aF) (i:=i+1) (by simpa using h) he;rw [show i + (j+1)=i+1+j from by omega];cases ei P cj with
     | true=>simp [this]
     | false=>exact this
theorem F8 {aF:List Nat}:∀{l:List Oper} {i:Nat},i+l.length ∈ h0 P aF i l
 | [],_=>by simp [h0]
 | o::os,i=>by
   have:=F8 (aF:=aF) (l:=os) (i:=i+1);simp only [h0,List.length_cons];rw [show i + (os.length+1)=i+1+os.length from by omega];cases ei P o with
   | true=>simp [this]
   | false=>exact this
theorem uA {aF:List Nat}:∀{l:List Oper} {i s:Nat},s ∈ h0 P aF i l->s=i+l.length\/∃j o,l[j]? =some o/\ei P o=true/\s=posOf aF (i+j)
 | [],i,s,h=>by simp only [h0,List.mem_singleton] at h;exact .inl (by simpa using h)
 | o::os,i,s,h=>by
   simp only [h0] at h;have rest:s ∈ h0 P aF (i+1) os->s=i + (o::os).length\/∃j cj,(o::os)[j]? =some cj/\ei P cj=true/\s=posOf aF (i+j):=by
    intro h;rcases uA h with h | ⟨j,cj,aa,ad,aJ⟩
    . exact .inl (by simp only [List.length_cons];omega)
    . exact .inr ⟨j+1,cj,by simpa using aa,ad,by rw [aJ];congr 1;omega⟩
   cases aD:ei P o with
   | true=>
     rw [aD] at h;simp only [cond_true,List.mem_cons] at h;rcases h with h | h
     . exact .inr ⟨0,o,rfl,aD,h⟩
     . exact rest h
   | false=>rw [aD] at h;exact rest h
theorem abS {c:Bool} {f:V->V->ah->a7} {x y v:V} {h ab:ah} (he:(bif c then (⟨f⟩:Ai) else ⟨fun _ _ _=>.fail⟩).run x y h=.val v ab):c=true/\f x y h=.val v ab:=by
 cases c with
 | true=>exact ⟨rfl,he⟩
 | false=>cases he
theorem ab0 {o:Oper} {call:dQ} {r:bI} {h ab:ah} {v:V} (a1:hb o=true) (he:(fw P o).run call r h=.val v ab):∃k,ab=h.new k/\True:=by
 have cells:∀{ai:List V} {aa:ah},gG h ai=some aa->∃k,aa=h.new k/\True:=by intro ai aa he;unfold gG at he;obtain ⟨aD,he⟩:=eG he;cases he;exact ⟨_,rfl,trivial⟩
 obtain ⟨dst,op,type,pos,after,guard⟩:=o;cases op<;>simp only [hb] at a1<;>try (cases a1;done)
 all_goals simp only [fw] at he
 case alloc t=>
  cases av:a' P t with
  | none=>rw [av] at he;simp [dq.none] at he
  | some aR=>
    rw [av] at he;simp only at he;cases bn:aR.zero with
    | none=>rw [bn] at he;simp [dq.none] at he
    | some z=>
      rw [bn] at he;simp only at he;cases aV:gG h z.cells with
      | none=>rw [aV] at he;cases he
      | some aa=>
        rw [aV] at he;simp only [hr,a7.val.injEq] at he;obtain ⟨_,rfl⟩:=he;exact cells aV
 case box t x=>
  obtain ⟨aB,he⟩:=jJ he;cases aV:gG h ((bT x).run r).cells with
  | none=>rw [aV] at he;cases he
  | some aa=>
    rw [aV] at he;simp only [hr,a7.val.injEq] at he;obtain ⟨_,rfl⟩:=he;exact cells aV
 case buildSlice t n bm=>
  unfold vE at he;cases av:a' P t with
  | none=>rw [av] at he;cases he
  | some aR=>
    rw [av] at he;simp only at he;cases bU:aR.bh<;>rw [bU] at he<;>simp only at he<;>try (cases he;done)
    rename_i e;cases cu:a' P e with
    | none=>rw [cu] at he;cases he
    | some ba=>
      rw [cu] at he;simp only at he;cases bn:ba.zero with
      | none=>rw [bn] at he;cases he
      | some z=>
        rw [bn] at he;simp only at he;cases aD:(Nat.ble (n * ba.size) 1000000&&Nat.beq z.cells.length ba.size) with
        | false=>rw [aD] at he;cases he
        | true=>
          rw [aD] at he;simp only [cond_true] at he;cases az:nb (fun i=>some (i * ba.size,ba.size)) (hG z.cells n) ((uJ bm.toList).run r) with
          | none=>rw [az] at he;cases he
          | some cs=>
            rw [az] at he;simp only at he;cases aV:gG h cs with
            | none=>rw [aV] at he;cases he
            | some aa=>
              rw [aV] at he;simp only [a7.val.injEq] at he;obtain ⟨_,rfl⟩:=he;exact cells aV
 case makeSlice t l c=>
  unfold w2 at he
  split at he
  rotate_left
  . cases he
  split at he
  rotate_left
  . cases he
  split at he
  rotate_left
  . cases he
  split at he
  rotate_left
  . cases he
  obtain ⟨_,he⟩:=abS he;simp only [sW] at he;obtain ⟨_,_,_,he⟩:=s3 he;obtain ⟨_,_,_,he⟩:=s3 he;obtain ⟨_,he⟩:=jJ he
  split at he
  . rename_i aV;simp only [a7.val.injEq] at he;obtain ⟨_,rfl⟩:=he;exact cells aV
  . cases he
 case makeMap t x=>
  cases x with
  | some _=>cases a1
  | none=>
    simp only [rF,zv] at he;cases av:a' P t with
    | none=>rw [av] at he;cases he
    | some aR=>
      rw [av] at he;simp only at he;cases ae:Nat.beq (fi aR.bh) 3 with
      | false=>rw [ae] at he;cases he
      | true=>
        rw [ae] at he;simp only [cond_true,sV,zw] at he;simp only [a7.val.injEq] at he;exact ⟨_,he.2.symm,trivial⟩
theorem agK {o:Oper} (a1:hb o=true):e' P o.op=true:=by obtain ⟨dst,op,type,pos,after,guard⟩:=o;cases op<;>simp only [hb] at a1<;>first | (cases a1;done) | rfl
theorem Rf {au:Nat} {all:Array Oper} {o:Oper} {call:dQ} {r:bI} {h ab:ah} {v:V} (he:(cG P au all o).run call r h=.val v ab):
 ((fw P o).run call (dx r (b7 all o)) h=.val v ab/\∀E a,RegRel0 E au (dx r (b7 all o)) a->Region.wanted o (yielded all a.tmps)=true)\/
 (ab=h/\∀H,(cG P au all o).run call r H=.val v H):=by
 obtain ⟨bb,aS⟩:=kH he;have c_:(e7 au o.dst&&j2 (b7 all o))=true:=by rw [bb,aS];rfl
 have key:cG P au all o=(match o.guard with
  | none=>⟨jj none (fw P o) (b7 all o)⟩
  | some (j,want)=>match all[j]? with
    | some g=>match g.dst with
      | some d=>bif Nat.blt d au&&Nat.ble d top then ⟨jj (some (o6 (aj d),want)) (fw P o) (b7 all o)⟩ else dq.none
      | none=>dq.none
    | none=>dq.none):=by
  unfold cG;rw [c_];rfl
 rw [key] at he ⊢;cases aB:o.guard with
 | none=>
   rw [aB] at he;exact .inl ⟨he,fun E a _=>by simp [Region.wanted,aB]⟩
 | some qd=>
   obtain ⟨j,want⟩:=qd;rw [aB] at he;simp only at he ⊢;cases aU:all[j]? with
   | none=>rw [aU] at he;simp [dq.none] at he
   | some g=>
     rw [aU] at he;simp only at he ⊢;cases kN:g.dst with
     | none=>rw [kN] at he;simp [dq.none] at he
     | some d=>
       rw [kN] at he;simp only at he ⊢;cases aD:(Nat.blt d au&&Nat.ble d top) with
       | false=>rw [aD] at he;simp [dq.none] at he
       | true=>
         rw [aD] at he;simp only [cond_true,jj] at he ⊢;have j8:=aD;simp only [Bool.and_eq_true,Nat.blt_eq,Nat.ble_eq] at j8;cases bj:(o6 (aj d)).run (dx r (b7 all o))<;>rw [bj] at he<;>simp only at he ⊢<;>try (cases he;done)
         . rename_i b;cases ae:(bif want then b else !b)<;>rw [ae] at he<;>simp only [cond_true,cond_false] at he ⊢
           . simp only [a7.val.injEq] at he ⊢;exact .inr ⟨he.2.symm,fun H=>⟨he.1,trivial⟩⟩
           . refine .inl ⟨he,fun E a k=>?_⟩;obtain ⟨g1,_⟩:=JI k aU kN j8.1 j8.2;have aZ:=g1 b bj;simp only [Region.wanted,aB,aZ];cases want<;>cases b<;>simp_all
         . simp only [a7.val.injEq] at he ⊢;exact .inr ⟨he.2.symm,fun H=>⟨he.1,trivial⟩⟩
theorem Re {au:Nat} {all:Array Oper} {o:Oper} {call:dQ} {r:bI} {h ab:ah} {v:V} (a1:hb o=true) (he:(cG P au all o).run call r h=.val v ab):
 (∃k,ab=h.new k/\True)\/(ab=h/\∀H,(cG P au all o).run call r H=.val v H):=by
 rcases Rf he with ⟨aa,_⟩ | aa
 . exact .inl (ab0 a1 aa)
 . exact .inr aa
theorem acj {rd:Option Nat} {F:Fr} {E:Env} {h ab H:ah} {w:World} {call:dQ} {all:Array Oper} {i:Nat} {o:Oper} (ao:all[i]? =some o) (a1:hb o=true) {au:Nat} {r:bI} {a:Act} {v:V}
 (he:(cG P au all o).run call r h=.val v ab) (p_:a.tmps.size=au) (kP:∀t ∈ b7 all o,Rel E (T.get .bad (aj t) r) (a.tmps.getD t undef)) (s:bd F E H w)
 (Kw:ab.next≠h.next) (af:F.er (aj h.next)=some (ab.get (aj h.next)))
 {K:Act->World->Prop} {Q:Exit->Act->World->Prop} (dO:∀ax x an,E.le ax->Rel ax v x->bd (F.free (aj h.next)) ax H an->K (a.put o.dst x) an):wpOpIn (cw rd) 0 P all Q i K a w:=by
 obtain ⟨bb,aS⟩:=kH he;have k:RegRel0 E au (dx r (b7 all o)) a:=⟨p_,fun t av=>by
  rw [Nk aS av];by_cases hm:t ∈ b7 all o
  . rw [if_pos hm];exact kP t hm
  . rw [if_neg hm];simp [Rel]⟩
 obtain ⟨eQ,hw⟩:(fw P o).run call (dx r (b7 all o)) h=.val v ab/\Region.wanted o (yielded all a.tmps)=true:=by
  rcases Rf he with ⟨aa,ad⟩ | ⟨aa,_⟩
  . exact ⟨aa,ad E a k⟩
  . exact absurd (by rw [aa]) Kw
 obtain ⟨m,ak,dj,ar,aw,aK⟩:=abZ a1 eQ k;simp only [wpOpIn,ao,hw,if_true];obtain ⟨X,ej,bW,bV⟩:=aK w;rw [ar,ah.iE,if_pos rfl] at af;have dT:E.put (aj h.next) ⟨w.heap.size,0,0⟩ (aj h.next)=some ⟨w.heap.size,0,0⟩:=by unfold Env.put;rw [if_pos rfl]
 have hle:E.le (E.put (aj h.next) ⟨w.heap.size,0,0⟩):=Env.l1 (s.qt _ _ af).2.1;obtain ⟨br,cF⟩:=bV _ hle dT;have cq:F.w.heap.size<=w.heap.size:=s.frame.size;obtain ⟨_,ir⟩:=s.link af (o:=ej) (cF _ cq);refine ⟨fun _ _=>trivial,?_⟩;rw [qz (by intro c h;have:=a1;unfold hb at this;rw [h] at this;cases this),ak,Sem.run_bind,bW];exact dO _ X _ hle br ir
end
end
end Go.Proofs.YthemdhlheglhoaaGreatDoor.a8
