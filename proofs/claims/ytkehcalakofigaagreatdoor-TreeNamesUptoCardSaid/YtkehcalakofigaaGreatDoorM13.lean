/- The abstract machine and its walks (a verified interpreter of the model's code: plain definitions and lemmas, no condition). Printed by a program from longer texts: names made short. -/
import Derived.Test.YtkehcalakofigaaGreatDoorM3
import Derived.Test.YtkehcalakofigaaGreatDoorM7
set_option linter.unusedSectionVars false
set_option linter.unusedSimpArgs false
set_option linter.unusedVariables false
namespace Go.Proofs.YtkehcalakofigaaGreatDoor.aS
variable [Lay]
open Go Go.RowKit Go.Maps Go.Sort Go.Shelf
open Go.Proofs (encStr)
def mv:List ca→Option (List (List UInt8))
 | []=>some []
 | m::ms=>match m.k with
   | .str s=>(match mv ms with
     | some l=>some (s::l)
     | none=>none)
   | _=>none
def lg (l:List (List UInt8)):List (List UInt8):=l.mergeSort fun x y=>decide (x≤y)
open Classical in
noncomputable def xZ (clock:Nat) (es:List ca) (aL:List (List UInt8)):Bool:=mb clock 0 es&&(decide aL.Nodup&&(decide (∀x ∈ aL,x.length≤17179869184)&&Nat.ble es.length 1000000000))
noncomputable def JA (g:FuncId) (cj:aQ) (h:af):aZ:=
 match h.get cj with
 | .cells n cs 0 _=>bif Nat.blt 0 n then (match T.get .bad (aC 0) cs with
   | .map b=>(match h.get b with
     | .mp es clock=>(match mv es with
       | some aL=>bif xZ clock es aL then (match lg aL with
          | []=>.val .bW h
          | x::l=>(match hK h (pE (x::l)) 1 false with
            | some ab=>.val (.dK (aC h.next) 0 (x::l).length 0) ab
            | none=>.fail)) else .fail
       | none=>.fail)
     | _=>.fail)
   | _=>.fail) else .fail
 | _=>.fail
noncomputable def Dk (g:FuncId):uP:=
 ⟨fun args h=>match args with
   | [.func f [.ptr cj 0]]=>bif Nat.beq f g then JA g cj h else .fail
   | _=>.fail⟩
theorem H_:∀{es:List ca} {aL:List (List UInt8)},mv es=some aL→aL.length=es.length
 | [],aL,h=>by simp only [mv,Option.some.injEq] at h;subst h;rfl
 | m::ms,aL,h=>by
   unfold mv at h
   split at h
   · cases aF:mv ms with
     | none=>rw [aF] at h;cases h
     | some l=>
       rw [aF] at h
       simp only [Option.some.injEq] at h
       subst h
       simp [H_ aF]
   · cases h
theorem OK {E:Env}:∀{es:List ca} {aL:List (List UInt8)} {l:List MapEntry},mv es=some aL→dF E es l→l.map (·.key)=aL.map encStr∧l.map (·.born)=es.map (·.born)
 | [],aL,l,h,aJ=>by
   simp only [mv,Option.some.injEq] at h
   simp only [dF] at aJ
   subst h aJ
   exact ⟨rfl,rfl⟩
 | m::ms,aL,l,h,aJ=>by
   simp only [dF] at aJ
   obtain ⟨e,h',rfl,aa,ae,aI,bu⟩:=aJ
   unfold mv at h
   split at h
   · rename_i n aD
     cases aF:mv ms with
     | none=>rw [aF] at h;cases h
     | some l=>
       rw [aF] at h
       simp only [Option.some.injEq] at h
       subst h
       obtain ⟨g1,g2⟩:=OK aF bu
       rw [aD] at aa
       simp only [Rel] at aa
       simp only [List.map_cons,g1,g2,aa,aI]
       exact ⟨by first | rfl | trivial,by first | rfl | trivial⟩
   · cases h
theorem af_ {l:List (List UInt8)} (h:l.Nodup):(l.map encStr).Nodup:=by
 induction l with
 | nil=>exact List.nodup_nil
 | cons x l bg=>
   obtain ⟨aa,ae⟩:=List.nodup_cons.1 h
   rw [List.map_cons]
   refine List.nodup_cons.2 ⟨fun q=>?_,bg ae⟩
   obtain ⟨y,a1,e⟩:=List.mem_map.1 q
   rw [encStr_inj e] at a1
   exact aa a1
theorem zA (l:List (List UInt8)):(lg l).Perm l:=List.mergeSort_perm l _
theorem Rq (l:List (List UInt8)):(lg l).Pairwise (·≤·):=by
 have:=List.pairwise_mergeSort (le:=fun x y:List UInt8=>decide (x≤y)) (fun a b c aa ae=>by simp only [decide_eq_true_eq] at *;exact List.le_trans aa ae) (fun a b=>by simp only [Bool.or_eq_true,decide_eq_true_eq];exact List.le_total a b) l
 exact this.imp (fun h=>by simpa using h)
theorem Rp {l m:List (List UInt8)} (h:m.Perm l) (aR:l.Pairwise (·≤·)):lg m=l:=
 ((zA m).trans h).eq_of_pairwise (fun a b _ _ aa ae=>List.le_antisymm aa ae) (Rq m) aR
theorem air {l m:List (List UInt8)} (h:m.Perm l):lg m=lg l:=Rp (h.trans (zA l).symm) (Rq l)
theorem aiu {P:Program} {f g:FuncId} {b5:TypeId} (vF:g≠c7) (kU:P.underlying b5=some .string) (C:Ee P f g b5) {args:List V} {h ab:af} {v:V} (he:(Dk g).run args h=.val v ab)
 (az:Fr) (E:Env) (w:World) (xs:List Value) (au:a_ E args xs) (s:a8 az E h w):
 Calls P f xs.toArray w fun e ar=>∃ay x,e=.returned x∧E.le ay∧Rel ay v x∧a8 az ay ab ar:=by
 match args,he,au with
 | [.func p9 [.ptr cj 0]],he,au=>
   simp only [Dk] at he
   cases th:Nat.beq p9 g with
   | false=>rw [th] at he;cases he
   | true=>
     rw [th] at he
     simp only [cond_true] at he
     have GR:p9=g:=Nat.eq_of_beq_eq_true th
     subst GR
     simp only [a_] at au
     obtain ⟨y,_,rfl,a1,rfl⟩:=au
     simp only [Rel] at a1
     obtain ⟨_,a,rfl,q,_,br,aF,rfl⟩ | ⟨HQ,_⟩:=a1
     rotate_left
     · exact absurd HQ vF
     obtain ⟨p,aj,rfl⟩:=aF
     have Gx:a=#[.pointer (some ⟨p.a7,p.base+0,none⟩)]:=by
      rw [←Array.toList_inj,br]
     subst Gx
     unfold JA at he
     split at he
     · rename_i n cs st gI
       have kc:=s.base cj p n cs st gI aj
       have iv:=s.at aj
       rw [gI] at iv
       obtain ⟨_,p',c,el,bS,aB,_,o',_,_,_,x8⟩:=iv
       rw [aj] at aB;cases aB
       cases aX:Nat.blt 0 n with
       | false=>rw [aX] at he;cases he
       | true=>
         rw [aX] at he
         simp only [cond_true] at he
         rw [Nat.blt_eq] at aX
         split at he
         · rename_i b mm
           have ta:0<c.size:=by have:=x8.1;omega
           have hI:=x8.2 0 c[0] aX (by rw [kc];exact Array.getElem?_eq_getElem ta)
           rw [mm] at hI
           simp only [Rel] at hI
           obtain ⟨k9,tw,qh⟩:=hI
           split at he
           · rename_i es clock lI
             have yl:=s.at tw
             rw [lI] at yl
             obtain ⟨ag4,am,aO,_,He,qq⟩:=yl
             rw [tw] at aO;cases aO
             cases jQ:mv es with
             | none=>rw [jQ] at he;cases he
             | some aL=>
               rw [jQ] at he
               simp only at he
               cases ql:xZ clock es aL with
               | false=>rw [ql] at he;cases he
               | true=>
                 rw [ql] at he
                 simp only [cond_true] at he
                 simp only [xZ,Bool.and_eq_true,decide_eq_true_eq,Nat.ble_eq] at ql
                 obtain ⟨g2,M4,g3,akp⟩:=ql
                 obtain ⟨ck,cJ⟩:=OK jQ qq
                 have qn:=H_ jQ
                 have s_:am.size=aL.length:=by
                  have:=congrArg List.length ck
                  simpa using this
                 obtain ⟨bR,cb⟩:=Ex g2
                 have qp:maxLen=9223372036854775807:=by decide
                 have yE:MapKept.Stamped am clock:=by
                  refine ⟨fun x au=>?_,by rw [cJ];exact cb,by rw [ck];exact af_ M4⟩
                  have:x.born ∈ es.map (·.born):=by rw [←cJ];exact List.mem_map_of_mem au
                  exact (bR _ this).2
                 have yg:∀x ∈ am.toList,∃n ∈ aL,x.key=encStr n:=by
                  intro x au
                  have:x.key ∈ am.toList.map (·.key):=List.mem_map_of_mem au
                  rw [ck] at this
                  obtain ⟨n,aX,e⟩:=List.mem_map.1 this
                  exact ⟨n,aX,e.symm⟩
                 have qx:∀x ∈ am.toList,∃n,x.key=encStr n∧WideElems.rd P b5 (fun _=>some ((.nil:DataW Unit),[])) x=some (.string n,.nil):=by
                  intro x au
                  obtain ⟨n,aX,e⟩:=yg x au
                  refine ⟨n,e,?_⟩
                  unfold WideElems.rd
                  rw [e,show encStr n=.string ⟨⟨n⟩⟩ from rfl,WideMaps.keyOf_string_mk kU (by show n.length≤maxLen;have:=g3 n aX;omega)]
                  rfl
                 have x_:WideElems.Fit P b5 (fun _=>some ((.nil:DataW Unit),[])) am clock:=⟨by rw [s_,qn,qp];omega,yE,fun x au=>by obtain ⟨n,_,e⟩:=qx x au;exact ⟨_,e⟩⟩
                 have fK:w.ownsMap P b5 (fun _=>some ((.nil:DataW Unit),[])) k9.a7 am.size (.map ((am.toList.map (WideElems.rg P b5 (fun _=>some ((.nil:DataW Unit),[])))).foldr DataW.insert [])):=⟨am,clock,He,x_,Nat.le_refl _,rfl⟩
                 have yh:(am.toList.map (WideElems.rg P b5 (fun _=>some ((.nil:DataW Unit),[])))).map (fun p=>(match p.1 with | .string b=>b | _=>[]))=aL:=by
                  have bj:∀(l:List MapEntry) (gD:List (List UInt8)),(∀x ∈ l,∃n,x.key=encStr n∧WideElems.rd P b5 (fun _=>some ((.nil:DataW Unit),[])) x=some (.string n,.nil))→l.map (·.key)=gD.map encStr→(l.map (WideElems.rg P b5 (fun _=>some ((.nil:DataW Unit),[])))).map (fun p=>(match p.1 with | .string b=>b | _=>[]))=gD:=by
                   intro l
                   induction l with
                   | nil=>
                     intro gD _ e
                     cases gD with
                     | nil=>rfl
                     | cons z gD=>simp at e
                   | cons x l bg=>
                     intro gD dT e
                     cases gD with
                     | nil=>simp at e
                     | cons z gD=>
                       simp only [List.map_cons,List.cons.injEq] at e
                       obtain ⟨n,aB,aO⟩:=dT x (List.mem_cons_self ..)
                       have HS:z=n:=by
                        have:=e.1.symm.trans aB
                        exact encStr_inj this
                       rw [List.map_cons,List.map_cons,bg gD (fun y a1=>dT y (List.mem_cons_of_mem _ a1)) e.2]
                       unfold WideElems.rg
                       rw [aO,HS]
                       rfl
                  exact bj am.toList aL qx ck
                 have nU:(strKeys (.map ((am.toList.map (WideElems.rg P b5 (fun _=>some ((.nil:DataW Unit),[])))).foldr DataW.insert []):DataW Unit)).Perm aL:=by
                  have:=(WideShapes.sorted_perm (am.toList.map (WideElems.rg P b5 (fun _=>some ((.nil:DataW Unit),[]))))).map (fun p=>(match p.1 with | .string b=>b | _=>[]))
                  rw [yh] at this
                  exact this
                 have b7:Maps.size (.map ((am.toList.map (WideElems.rg P b5 (fun _=>some ((.nil:DataW Unit),[])))).foldr DataW.insert []):DataW Unit)=aL.length:=by
                  rw [Maps.size_eq,length_sorted,List.length_map,Array.length_toList,s_]
                 have aN:=(Array.getElem?_eq_some_iff.1 o').1
                 have GD:w.cell? ⟨p.a7,0,none⟩=some (.map (some k9.a7)):=by
                  simp only [World.cell?,o']
                  rw [←qh]
                  exact Array.getElem?_eq_getElem ta
                 have call:=C p.a7 k9.a7 am.size _ _ w aN GD fK (by rw [b7,qn,qp];omega) (by rw [b7,qn];omega)
                 rw [show p.base+0=0 from by rw [kc]]
                 refine call.mono fun e ar q=>?_
                 obtain ⟨v0,eL,rfl,al,aq,aK,bG⟩:=q
                 have fk:eL.Perm aL:=al.trans nU
                 have yB:eL.length=(lg aL).length:=by rw [fk.length_eq,(zA aL).length_eq]
                 have qy:(eL.mergeSort fun x y=>decide (x≤y))=lg aL:=air fk
                 rw [qy] at aq
                 rw [yB] at aq
                 have aK:v0=.slice none 0 0↔lg aL=[]:=aK.trans ⟨fun e=>List.length_eq_zero_iff.1 (by rw [←yB,e];rfl),fun e=>List.length_eq_zero_iff.1 (by rw [yB,e];rfl)⟩
                 clear qy yB fk nU yh call x_ fK qx yg yE ck jQ b7 s_ qn
                 generalize lg aL=aL at *
                 cases aL with
                 | nil=>
                   have:([]:List (List UInt8))=[]:=rfl
                   cases he
                   rw [aK.2 this]
                   exact ⟨E,_,rfl,fun _ _ q=>q,by simp only [Rel],s.below bG⟩
                 | cons x l=>
                   simp only at he
                   cases kT:hK h (pE (x::l)) 1 false with
                   | none=>rw [kT] at he;cases he
                   | some aa=>
                     rw [kT] at he
                     simp only [aZ.val.injEq] at he
                     obtain ⟨rfl,rfl⟩:=he
                     obtain ⟨bp,bT⟩:=aq
                     rcases bT with ⟨_,bT⟩ | ⟨nS,cap,cur,rfl,bT,bX,ew,cu,ek,ft⟩
                     · simp at bT
                     · unfold hK at kT
                       obtain ⟨aw,kT⟩:=dW kT
                       simp only [Bool.and_eq_true,Nat.ble_eq] at aw
                       simp only [Option.some.injEq] at kT
                       subst kT
                       have dy:E.put (aC h.next) ⟨nS,0,cap⟩ (aC h.next)=some ⟨nS,0,cap⟩:=by unfold Env.put;rw [if_pos rfl]
                       have hle:E.le (E.put (aC h.next) ⟨nS,0,cap⟩):=Env.jW (s.fresh h.next (Nat.le_refl _))
                       refine ⟨_,_,rfl,hle,?_,s.add (p:=⟨nS,0,cap⟩) bG.size (fun j bH _=>bG.block j bH) (Nat.le_trans s.frame.size bT) (fun bJ dZ gh mo dO=>?_) bG.os bG.tape bG.output (fun _ _ _ e=>by injection e with _ _ cc;omega) ?_⟩
                       · simp only [Rel]
                         exact ⟨_,dy,by simp only [Nat.zero_add];omega,by simp only [Nat.add_zero,Nat.sub_zero]⟩
                       · have:=P8 s gh mo
                         simp only at dO
                         omega
                       · have fU:=xW (a_.mono hle _ _ (JJ E (x::l))) aw.1 (cur.toList.drop ((x::l).length * 1)).toArray
                         have GF:((x::l).map encStr).toArray++(cur.toList.drop ((x::l).length * 1)).toArray=cur:=by
                          rw [←ft,←Array.toList_inj]
                          simp
                         rw [GF] at fU
                         exact ⟨aw.1,⟨nS,0,cap⟩,cur,b5,(0,0),dy,Nat.le_trans s.frame.size bT,bX,.inr (Nat.le_refl _),fun _=>rfl,fun _=>by simp only;omega,fU⟩
           · cases he
         · cases he
     · cases he
end Go.Proofs.YtkehcalakofigaaGreatDoor.aS
namespace Go.Proofs.YtkehcalakofigaaGreatDoor.aS
variable [Lay]
open Go Go.RowKit
section
variable {α:Type}
def pK (e:α→V):List (List UInt8 × α)→List ca→Prop
 | [],[]=>True
 | (s,a)::bL,m::es=>m.k=.str s∧m.v=e a∧pK e bL es
 | _,_=>False
def nt (s:List UInt8):List (List UInt8 × α)→Option α
 | []=>none
 | (n,a)::bL=>if s=n then some a else nt s bL
def oz (s:List UInt8) (x:α):List (List UInt8 × α)→List (List UInt8 × α)
 | []=>[(s,x)]
 | (n,a)::bL=>if s=n then (s,x)::bL else (n,a)::oz s x bL
structure hR (e:α→V) (h:af) (b:aQ) (bL:List (List UInt8 × α)):Prop where
 ex:∃es clock,h.get b=.mp es clock∧pK e bL es∧mb clock 0 es=true
 b0:Old h b
theorem Pf:∀a b:List UInt8,nu a b=decide (a<b)
 | [],[]=>by simp [nu]
 | [],b::y=>by simp [nu]
 | a::x,[]=>by simp [nu]
 | a::x,b::y=>by
   simp only [nu,Pf x y,List.cons_lt_cons_iff]
   have aB:Nat.blt a.toNat b.toNat=decide (a<b):=by
    rw [Bool.eq_iff_iff,Nat.blt_eq,decide_eq_true_eq,UInt8.lt_iff_toNat_lt]
   have aO:Nat.beq a.toNat b.toNat=decide (a=b):=by
    rw [Bool.eq_iff_iff,Nat.beq_eq,decide_eq_true_eq]
    exact ⟨fun q=>UInt8.toNat.inj q,fun q=>by rw [q]⟩
   rw [aB,aO]
   by_cases bz:a<b
   · simp [bz]
   · by_cases bN:a=b
     · subst bN;simp [bz]
     · simp [bz,bN]
theorem Ul (a b:List UInt8):kI a b=decide (a=b):=by
 induction a generalizing b with
 | nil=>cases b<;>simp [kI]
 | cons x a bg=>
   cases b with
   | nil=>simp [kI]
   | cons y b=>
     simp only [kI,bg]
     have aO:Nat.beq x.toNat y.toNat=decide (x=y):=by
      rw [Bool.eq_iff_iff,Nat.beq_eq,decide_eq_true_eq]
      exact ⟨fun q=>UInt8.toNat.inj q,fun q=>by rw [q]⟩
     rw [aO]
     by_cases c:x=y
     · subst c;simp
     · simp [c]
theorem Q8 (s n:List UInt8):lB.run (.str s) (.str n)=some (decide (s=n)):=by
 simp only [lB,Ul]
variable {e:α→V} {h ab:af} {b:aQ} {bL:List (List UInt8 × α)} {es:List ca}
theorem pK.find (H:pK e bL es) (s:List UInt8):jM lB (.str s) es=some ((nt s bL).map e):=by
 induction bL generalizing es with
 | nil=>
   cases es with
   | nil=>rfl
   | cons m es=>exact H.elim
 | cons p bL bg=>
   obtain ⟨n,a⟩:=p
   cases es with
   | nil=>exact H.elim
   | cons m es=>
     obtain ⟨aa,ae,aI⟩:=H
     simp only [jM,aa,Q8,nt]
     by_cases q:s=n
     · subst q;simp [ae]
     · simp only [q,decide_false,cond_false,if_false]
       exact bg aI
theorem pK.put (H:pK e bL es) (s:List UInt8) (x:α) (clock:Nat) (bm:Nat) (dI:bm≤clock) (B:mb clock bm es=true):
 ∃h' f,ku lB (.str s) (e x) clock es=some (h',f)∧pK e (oz s x bL) h'∧mb (bif f then clock+1 else clock) bm h'=true:=by
 induction bL generalizing es bm with
 | nil=>
   cases es with
   | nil=>
     refine ⟨_,true,rfl,⟨rfl,rfl,trivial⟩,?_⟩
     simp only [mb,cond_true,Bool.and_true,Bool.and_eq_true,Nat.ble_eq,Nat.blt_eq]
     omega
   | cons m es=>exact H.elim
 | cons p bL bg=>
   obtain ⟨n,a⟩:=p
   cases es with
   | nil=>exact H.elim
   | cons m es=>
     obtain ⟨aa,ae,aI⟩:=H
     simp only [mb,Bool.and_eq_true,Nat.ble_eq,Nat.blt_eq] at B
     obtain ⟨⟨bR,cb⟩,hr⟩:=B
     simp only [ku,aa,Q8,oz]
     by_cases q:s=n
     · subst q
       refine ⟨⟨.str s,e x,m.born⟩::es,false,by simp only [decide_true,cond_true],?_,?_⟩
       · rw [if_pos rfl];exact ⟨rfl,rfl,aI⟩
       · simp only [cond_false,mb,hr,Bool.and_true,Bool.and_eq_true,Nat.ble_eq,Nat.blt_eq];exact ⟨bR,cb⟩
     · obtain ⟨h',f,al,aq,aK⟩:=bg (bm:=m.born+1) aI (by omega) hr
       refine ⟨m::h',f,by simp only [q,decide_false,cond_false,al],by rw [if_neg q];exact ⟨aa,ae,aq⟩,?_⟩
       simp only [mb,aK,Bool.and_true,Bool.and_eq_true,Nat.ble_eq,Nat.blt_eq]
       refine ⟨bR,?_⟩
       cases f<;>simp only [cond_true,cond_false]<;>omega
theorem hR.ext (H:hR e h b bL) (x:Ext h ab):hR e ab b bL:=by
 obtain ⟨es,clock,al,aq,aK⟩:=H.ex
 exact ⟨⟨es,clock,by rw [x.get b H.b0];exact al,aq,aK⟩,x.b0 H.b0⟩
theorem hR.mod {M:aQ→Prop} (H:hR e h b bL) (m:Mod M h ab) (ai:¬M b):hR e ab b bL:=by
 obtain ⟨es,clock,al,aq,aK⟩:=H.ex
 exact ⟨⟨es,clock,by rw [m.get b H.b0 ai];exact al,aq,aK⟩,m.b0 H.b0⟩
theorem hR.look (H:hR e h b bL) (s:List UInt8) (z:V) (ok:Bool):iR lB z ok h (.map b) (.str s)=some (match nt s bL with
 | some a=>(bif ok then .tuple [e a,.bool true] else e a)
 | none=>(bif ok then .tuple [z,.bool false] else z)):=by
 obtain ⟨es,clock,al,aq,aK⟩:=H.ex
 simp only [iR,al,ot,pr,b3.iU,aq.find]
 cases nt s bL<;>rfl
theorem hR.pG (H:hR e h b bL) (s:List UInt8) (x:α):∃ab,nG lB h (.map b) (.str s) (e x)=some ab∧hR e ab b (oz s x bL)∧Mod (fun p=>p=b) h ab∧ab.next=h.next:=by
 obtain ⟨es,clock,al,aq,aK⟩:=H.ex
 obtain ⟨h',f,bp,bT,bX⟩:=aq.put s x clock 0 (Nat.zero_le _) aK
 refine ⟨h.set b (.mp h' (bif f then clock+1 else clock)),by simp only [nG,al,b3.iU,bp],⟨⟨h',_,by rw [dG,if_pos rfl],bT,bX⟩,?_⟩,(Mod.refl (fun p=>p=b) h).set (fun _=>rfl) _,rfl⟩
 exact ((Mod.refl (fun p=>p=b) h).set (fun _=>rfl) _).b0 H.b0
theorem hR.new (e:α→V) (h:af):hR e (h.new (.mp [] 0)) (aC h.next) []:=
 ⟨⟨[],0,na _,trivial,rfl⟩,gz (by rw [gx];omega)⟩
theorem pK.keys (H:pK e bL es):mv es=some (bL.map Prod.fst):=by
 induction bL generalizing es with
 | nil=>
   cases es with
   | nil=>rfl
   | cons m es=>exact H.elim
 | cons p bL bg=>
   obtain ⟨n,a⟩:=p
   cases es with
   | nil=>exact H.elim
   | cons m es=>
     obtain ⟨aa,ae,aI⟩:=H
     simp only [mv,aa,bg aI,List.map_cons]
theorem Pa (s:List UInt8) (x:α) (t:List UInt8):∀bL:List (List UInt8 × α),nt t (oz s x bL)=if t=s then some x else nt t bL
 | []=>by simp only [oz,nt]
 | (n,a)::bL=>by
   simp only [oz]
   by_cases q:s=n
   · subst q
     simp only [if_true,nt]
     split<;>rfl
   · rw [if_neg q]
     simp only [nt,Pa s x t bL]
     by_cases r:t=n
     · rw [if_pos r,if_neg (fun z=>q (z.symm.trans r)),if_pos r]
     · rw [if_neg r,if_neg r]
theorem OM (s:List UInt8) (x:α):∀bL:List (List UInt8 × α),(oz s x bL).map Prod.fst=if s ∈ bL.map Prod.fst then bL.map Prod.fst else bL.map Prod.fst++[s]
 | []=>by simp [oz]
 | (n,a)::bL=>by
   simp only [oz]
   by_cases q:s=n
   · subst q;simp
   · rw [if_neg q,List.map_cons,OM s x bL,List.map_cons]
     simp only [List.mem_cons,q,false_or]
     split<;>simp
end
end Go.Proofs.YtkehcalakofigaaGreatDoor.aS
namespace Go.Proofs.YtkehcalakofigaaGreatDoor.aS
variable [Lay]
open Go Go.RowKit
theorem et.YK {h:af} {size:Nat} {v:V} {n:Nat} {ad:List V} (H:et h size v n ad) {k bn:IntKind} {bm av:Nat} (aa:bm≤av) (ae:av≤n) (jq jk:Option V)
 (dI:jq=some (.int k bm)∨jq=none∧bm=0) (gJ:jk=some (.int bn av)∨jk=none∧av=n) (jh:sh v) {cG:V} (e:g_ size v jq jk none=some cG):sh cG:=by
 have mV:∀d y,bm≤y→d=0→bound jq d y=some bm:=fun d y bb aY=>by
  rcases dI with rfl | ⟨rfl,h⟩
  · exact u1 bb
  · rw [sN,aY,h]
 have oV:∀d y,av≤y→d=n→bound jk d y=some av:=fun d y bb aY=>by
  rcases gJ with rfl | ⟨rfl,h⟩
  · exact u1 bb
  · rw [sN,aY,h]
 have cD:=H.2
 intro b o l c q
 subst q
 cases v<;>simp only at cD<;>try (exact cD.elim)
 case bW=>
  subst cD
  obtain rfl:av=0:=by omega
  obtain rfl:bm=0:=by omega
  simp only [g_,wU,oV 0 0 (by omega) rfl,mV 0 0 (by omega) rfl] at e
  cases e
 case slice oU off len cap=>
  obtain ⟨rfl,_⟩:=cD
  have aw:=jh oU off len cap rfl
  simp only [g_,pB,oV len cap (by omega) rfl,mV 0 av aa rfl,Option.some.injEq,V.slice.injEq] at e
  omega
 case dK oU off len idx=>
  obtain ⟨rfl,_⟩:=cD
  simp only [g_,qV,oV len len (by omega) rfl,mV 0 av aa rfl] at e
  cases ai:Nat.blt bm len<;>rw [ai] at e<;>cases e
 case fu=>
  subst cD
  obtain rfl:av=0:=by omega
  obtain rfl:bm=0:=by omega
  simp only [g_,wV,oV 0 0 (by omega) rfl,mV 0 0 (by omega) rfl] at e
  cases e
theorem Ga {size:Nat}:∀(us:List (List V)) (i:Nat),(∀u ∈ us,u.length=size)→(us.drop i).flatten=us.flatten.drop (i * size)
 | us,0,_=>by simp
 | [],i+1,_=>by simp
 | u::us,i+1,h=>by
   rw [List.drop_succ_cons,Ga us i (fun w q=>h w (by simp [q])),List.flatten_cons,show (i+1) * size=u.length+i * size from by rw [h u (by simp),Nat.succ_mul,Nat.add_comm],←List.drop_drop,List.drop_left]
theorem Gb {size:Nat}:∀(us:List (List V)) (i:Nat),(∀u ∈ us,u.length=size)→(us.take i).flatten=us.flatten.take (i * size)
 | us,0,_=>by simp
 | [],i+1,_=>by simp
 | u::us,i+1,h=>by
   rw [List.take_succ_cons,List.flatten_cons,Gb us i (fun w q=>h w (by simp [q])),List.flatten_cons,show (i+1) * size=u.length+i * size from by rw [h u (by simp),Nat.succ_mul,Nat.add_comm],List.take_append]
   rw [List.take_of_length_le (show u.length≤u.length+i * size by omega),Nat.add_sub_cancel_left]
theorem bI.cut {F:aQ→Prop} {h:af} {size:Nat} {es:List (List D)} {v:V} (L:bI F h size es v) {k bn:IntKind} {bm av:Nat} (aa:bm≤av) (ae:av≤es.length) (jq jk:Option V)
 (dI:jq=some (.int k bm)∨jq=none∧bm=0) (gJ:jk=some (.int bn av)∨jk=none∧av=es.length):
 ∃cG,g_ size v jq jk none=some cG∧bI F h size ((es.drop bm).take (av-bm)) cG:=by
 obtain ⟨us,bU,bQ,kz,hO⟩:=L.ex
 have hle:=L.le
 obtain ⟨cG,al,aq,aK⟩:=bU.cut (k:=k) (bn:=bn) aa ae jq jk dI gJ fun b o l c e=>L.room b o l c e
 have hlen:((es.drop bm).take (av-bm)).length=av-bm:=by rw [List.length_take,List.length_drop];omega
 have abw:((us.drop bm).take (av-bm)).length=av-bm:=by rw [List.length_take,List.length_drop];omega
 refine ⟨cG,al,bU.YK aa ae jq jk dI gJ L.room al,by rw [hlen];omega,⟨(us.drop bm).take (av-bm),?_,by rw [hlen,abw],fun u q=>kz u (List.mem_of_mem_drop (List.mem_of_mem_take q)),fun i e u al aq=>?_⟩,fun b q=>L.vl b (aK b q)⟩
 · rw [hlen,Gb _ _ (fun u q=>kz u (List.mem_of_mem_drop q)),Ga _ _ kz]
   exact aq
 · have qm:i<av-bm:=by have:=(List.getElem?_eq_some_iff.1 al).1;omega
   rw [List.getElem?_take_of_lt qm,List.getElem?_drop] at al aq
   exact hO _ e u al aq
theorem bI.take {F:aQ→Prop} {h:af} {size:Nat} {es:List (List D)} {v:V} (L:bI F h size es v) {k:IntKind} {i:Nat} (av:i≤es.length):∃cG,g_ size v none (some (.int k i)) none=some cG∧bI F h size (es.take i) cG:=by
 have:=L.cut (k:=k) (bn:=k) (bm:=0) (av:=i) (Nat.zero_le _) av none (some (.int k i)) (.inr ⟨rfl,rfl⟩) (.inl rfl)
 simpa using this
theorem bI.drop {F:aQ→Prop} {h:af} {size:Nat} {es:List (List D)} {v:V} (L:bI F h size es v) {k:IntKind} {i:Nat} (av:i≤es.length):∃cG,g_ size v (some (.int k i)) none none=some cG∧bI F h size (es.drop i) cG:=by
 have:=L.cut (k:=k) (bn:=k) (bm:=i) (av:=es.length) av (Nat.le_refl _) (some (.int k i)) none (.inl rfl) (.inr ⟨rfl,rfl⟩)
 rwa [List.take_of_length_le (by rw [List.length_drop];omega)] at this
end Go.Proofs.YtkehcalakofigaaGreatDoor.aS
