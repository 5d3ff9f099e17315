/- The abstract machine and its walks (a verified interpreter of the model's code: plain definitions and lemmas, no condition). Printed by a program from longer texts: names made short. -/
import Derived.Test.YtkehcalakofigaaGreatDoorM3
import Derived.Test.YtkehcalakofigaaGreatDoorM7
set_option linter.unusedSectionVars false
set_option linter.unusedSimpArgs false
set_option linter.unusedVariables false
namespace Go.Proofs.YtkehcalakofigaaGreatDoor.aS
variable [Lay]
open Go Go.RowKit Go.Maps Go.Sort Go.Shelf
open Go.Proofs (encStr)
def lN:List b1→Option (List (List UInt8))
 | []=>some []
 | m::ms=>match m.k with
   | .str s=>(match lN ms with
     | some l=>some (s::l)
     | none=>none)
   | _=>none
def kE (l:List (List UInt8)):List (List UInt8):=l.mergeSort fun x y=>decide (x≤y)
open Classical in
noncomputable def w9 (clock:Nat) (es:List b1) (aI:List (List UInt8)):Bool:=lA clock 0 es&&(decide aI.Nodup&&(decide (∀x ∈ aI,x.length≤17179869184)&&Nat.ble es.length 1000000000))
noncomputable def Ii (g:FuncId) (ca:aO) (h:af):aV:=
 match h.get ca with
 | .cells n cs 0 _=>bif Nat.blt 0 n then (match T.get .bad (ay 0) cs with
   | .map b=>(match h.get b with
     | .mp es clock=>(match lN es with
       | some aI=>bif w9 clock es aI then (match kE aI with
          | []=>.val .b4 h
          | x::l=>(match hf h (oO (x::l)) 1 false with
            | some ab=>.val (.dV (ay h.next) 0 (x::l).length 0) ab
            | none=>.fail)) else .fail
       | none=>.fail)
     | _=>.fail)
   | _=>.fail) else .fail
 | _=>.fail
noncomputable def Ck (g:FuncId):tL:=
 ⟨fun args h=>match args with
   | [.func f [.ptr ca 0]]=>bif Nat.beq f g then Ii g ca h else .fail
   | _=>.fail⟩
theorem GS:∀{es:List b1} {aI:List (List UInt8)},lN es=some aI→aI.length=es.length
 | [],aI,h=>by simp only [lN,Option.some.injEq] at h;subst h;rfl
 | m::ms,aI,h=>by
   unfold lN at h
   split at h
   · cases aC:lN ms with
     | none=>rw [aC] at h;cases h
     | some l=>
       rw [aC] at h
       simp only [Option.some.injEq] at h
       subst h
       simp [GS aC]
   · cases h
theorem Nk {E:Env}:∀{es:List b1} {aI:List (List UInt8)} {l:List MapEntry},lN es=some aI→du E es l→l.map (·.key)=aI.map encStr∧l.map (·.born)=es.map (·.born)
 | [],aI,l,h,aH=>by
   simp only [lN,Option.some.injEq] at h
   simp only [du] at aH
   subst h aH
   exact ⟨rfl,rfl⟩
 | m::ms,aI,l,h,aH=>by
   simp only [du] at aH
   obtain ⟨e,hH,rfl,aa,ae,aF,bu⟩:=aH
   unfold lN at h
   split at h
   · rename_i n aA
     cases aC:lN ms with
     | none=>rw [aC] at h;cases h
     | some l=>
       rw [aC] at h
       simp only [Option.some.injEq] at h
       subst h
       obtain ⟨g1,g2⟩:=Nk aC bu
       rw [aA] at aa
       simp only [Rel] at aa
       simp only [List.map_cons,g1,g2,aa,aF]
       exact ⟨by first | rfl | trivial,by first | rfl | trivial⟩
   · cases h
theorem adO {l:List (List UInt8)} (h:l.Nodup):(l.map encStr).Nodup:=by
 induction l with
 | nil=>exact List.nodup_nil
 | cons x l bf=>
   obtain ⟨aa,ae⟩:=List.nodup_cons.1 h
   rw [List.map_cons]
   refine List.nodup_cons.2 ⟨fun q=>?_,bf ae⟩
   obtain ⟨y,a6,e⟩:=List.mem_map.1 q
   rw [encStr_inj e] at a6
   exact aa a6
theorem yG (l:List (List UInt8)):(kE l).Perm l:=List.mergeSort_perm l _
theorem P7 (l:List (List UInt8)):(kE l).Pairwise (·≤·):=by
 have:=List.pairwise_mergeSort (le:=fun x y:List UInt8=>decide (x≤y)) (fun a b c aa ae=>by simp only [decide_eq_true_eq] at *;exact List.le_trans aa ae) (fun a b=>by simp only [Bool.or_eq_true,decide_eq_true_eq];exact List.le_total a b) l
 exact this.imp (fun h=>by simpa using h)
theorem P6 {l m:List (List UInt8)} (h:m.Perm l) (aQ:l.Pairwise (·≤·)):kE m=l:=
 ((yG m).trans h).eq_of_pairwise (fun a b _ _ aa ae=>List.le_antisymm aa ae) (P7 m) aQ
theorem af5 {l m:List (List UInt8)} (h:m.Perm l):kE m=kE l:=P6 (h.trans (yG l).symm) (P7 l)
theorem af8 {P:Program} {f g:FuncId} {bV:TypeId} (uK:g≠cR) (kn:P.underlying bV=some .string) (C:C_ P f g bV) {args:List V} {h ab:af} {v:V} (he:(Ck g).run args h=.val v ab)
 (au:Fr) (E:Env) (w:World) (xs:List Value) (ak:a8 E args xs) (s:a1 au E h w):
 Calls P f xs.toArray w fun e aj=>∃ar x,e=.returned x∧E.le ar∧Rel ar v x∧a1 au ar ab aj:=by
 match args,he,ak with
 | [.func pk [.ptr ca 0]],he,ak=>
   simp only [Ck] at he
   cases sr:Nat.beq pk g with
   | false=>rw [sr] at he;cases he
   | true=>
     rw [sr] at he
     simp only [cond_true] at he
     have FE:pk=g:=Nat.eq_of_beq_eq_true sr
     subst FE
     simp only [a8] at ak
     obtain ⟨y,_,rfl,a6,rfl⟩:=ak
     simp only [Rel] at a6
     obtain ⟨_,a,rfl,q,_,bn,aC,rfl⟩ | ⟨GB,_⟩:=a6
     rotate_left
     · exact absurd GB uK
     obtain ⟨p,ah,rfl⟩:=aC
     have Fi:a=#[.pointer (some ⟨p.a_,p.base+0,none⟩)]:=by
      rw [←Array.toList_inj,bn]
     subst Fi
     unfold Ii at he
     split at he
     · rename_i n cs st ga
       have jH:=s.base ca p n cs st ga ah
       have hZ:=s.at ah
       rw [ga] at hZ
       obtain ⟨_,p',c,el,bL,aN,_,oh,_,_,_,xd⟩:=hZ
       rw [ah] at aN;cases aN
       cases aZ:Nat.blt 0 n with
       | false=>rw [aZ] at he;cases he
       | true=>
         rw [aZ] at he
         simp only [cond_true] at he
         rw [Nat.blt_eq] at aZ
         split at he
         · rename_i b lI
           have sh:0<c.size:=by have:=xd.1;omega
           have hc:=xd.2 0 c[0] aZ (by rw [jH];exact Array.getElem?_eq_getElem sh)
           rw [lI] at hc
           simp only [Rel] at hc
           obtain ⟨iP,sF,pw⟩:=hc
           split at he
           · rename_i es clock kX
             have xu:=s.at sF
             rw [kX] at xu
             obtain ⟨aeH,am,aY,_,F1,pE⟩:=xu
             rw [sF] at aY;cases aY
             cases jh:lN es with
             | none=>rw [jh] at he;cases he
             | some aI=>
               rw [jh] at he
               simp only at he
               cases pA:w9 clock es aI with
               | false=>rw [pA] at he;cases he
               | true=>
                 rw [pA] at he
                 simp only [cond_true] at he
                 simp only [w9,Bool.and_eq_true,decide_eq_true_eq,Nat.ble_eq] at pA
                 obtain ⟨g2,LJ,g3,ah1⟩:=pA
                 obtain ⟨cb,cB⟩:=Nk jh pE
                 have pB:=GS jh
                 have sg:am.size=aI.length:=by
                  have:=congrArg List.length cb
                  simpa using this
                 obtain ⟨b7,b_⟩:=Dw g2
                 have pD:maxLen=9223372036854775807:=by decide
                 have xL:MapKept.Stamped am clock:=by
                  refine ⟨fun x ak=>?_,by rw [cB];exact b_,by rw [cb];exact adO LJ⟩
                  have:x.born ∈ es.map (·.born):=by rw [←cB];exact List.mem_map_of_mem ak
                  exact (b7 _ this).2
                 have xo:∀x ∈ am.toList,∃n ∈ aI,x.key=encStr n:=by
                  intro x ak
                  have:x.key ∈ am.toList.map (·.key):=List.mem_map_of_mem ak
                  rw [cb] at this
                  obtain ⟨n,aZ,e⟩:=List.mem_map.1 this
                  exact ⟨n,aZ,e.symm⟩
                 have pL:∀x ∈ am.toList,∃n,x.key=encStr n∧WideElems.rd P bV (fun _=>some ((.nil:DataW Unit),[])) x=some (.string n,.nil):=by
                  intro x ak
                  obtain ⟨n,aZ,e⟩:=xo x ak
                  refine ⟨n,e,?_⟩
                  unfold WideElems.rd
                  rw [e,show encStr n=.string ⟨⟨n⟩⟩ from rfl,WideMaps.keyOf_string_mk kn (by show n.length≤maxLen;have:=g3 n aZ;omega)]
                  rfl
                 have xh:WideElems.Fit P bV (fun _=>some ((.nil:DataW Unit),[])) am clock:=⟨by rw [sg,pB,pD];omega,xL,fun x ak=>by obtain ⟨n,_,e⟩:=pL x ak;exact ⟨_,e⟩⟩
                 have fq:w.ownsMap P bV (fun _=>some ((.nil:DataW Unit),[])) iP.a_ am.size (.map ((am.toList.map (WideElems.rg P bV (fun _=>some ((.nil:DataW Unit),[])))).foldr DataW.insert [])):=⟨am,clock,F1,xh,Nat.le_refl _,rfl⟩
                 have xp:(am.toList.map (WideElems.rg P bV (fun _=>some ((.nil:DataW Unit),[])))).map (fun p=>(match p.1 with | .string b=>b | _=>[]))=aI:=by
                  have bh:∀(l:List MapEntry) (fX:List (List UInt8)),(∀x ∈ l,∃n,x.key=encStr n∧WideElems.rd P bV (fun _=>some ((.nil:DataW Unit),[])) x=some (.string n,.nil))→l.map (·.key)=fX.map encStr→(l.map (WideElems.rg P bV (fun _=>some ((.nil:DataW Unit),[])))).map (fun p=>(match p.1 with | .string b=>b | _=>[]))=fX:=by
                   intro l
                   induction l with
                   | nil=>
                     intro fX _ e
                     cases fX with
                     | nil=>rfl
                     | cons z fX=>simp at e
                   | cons x l bf=>
                     intro fX dm e
                     cases fX with
                     | nil=>simp at e
                     | cons z fX=>
                       simp only [List.map_cons,List.cons.injEq] at e
                       obtain ⟨n,aN,aY⟩:=dm x (List.mem_cons_self ..)
                       have GD:z=n:=by
                        have:=e.1.symm.trans aN
                        exact encStr_inj this
                       rw [List.map_cons,List.map_cons,bf fX (fun y a6=>dm y (List.mem_cons_of_mem _ a6)) e.2]
                       unfold WideElems.rg
                       rw [aY,GD]
                       rfl
                  exact bh am.toList aI pL cb
                 have mW:(strKeys (.map ((am.toList.map (WideElems.rg P bV (fun _=>some ((.nil:DataW Unit),[])))).foldr DataW.insert []):DataW Unit)).Perm aI:=by
                  have:=(WideShapes.sorted_perm (am.toList.map (WideElems.rg P bV (fun _=>some ((.nil:DataW Unit),[]))))).map (fun p=>(match p.1 with | .string b=>b | _=>[]))
                  rw [xp] at this
                  exact this
                 have b5:Maps.size (.map ((am.toList.map (WideElems.rg P bV (fun _=>some ((.nil:DataW Unit),[])))).foldr DataW.insert []):DataW Unit)=aI.length:=by
                  rw [Maps.size_eq,length_sorted,List.length_map,Array.length_toList,sg]
                 have aP:=(Array.getElem?_eq_some_iff.1 oh).1
                 have Fq:w.cell? ⟨p.a_,0,none⟩=some (.map (some iP.a_)):=by
                  simp only [World.cell?,oh]
                  rw [←pw]
                  exact Array.getElem?_eq_getElem sh
                 have call:=C p.a_ iP.a_ am.size _ _ w aP Fq fq (by rw [b5,pB,pD];omega) (by rw [b5,pB];omega)
                 rw [show p.base+0=0 from by rw [jH]]
                 refine call.mono fun e aj q=>?_
                 obtain ⟨v0,ez,rfl,aq,av,aK,bD⟩:=q
                 have e0:ez.Perm aI:=aq.trans mW
                 have xI:ez.length=(kE aI).length:=by rw [e0.length_eq,(yG aI).length_eq]
                 have sM:(ez.mergeSort fun x y=>decide (x≤y))=kE aI:=af5 e0
                 rw [sM] at av
                 rw [xI] at av
                 have aK:v0=.slice none 0 0↔kE aI=[]:=aK.trans ⟨fun e=>List.length_eq_zero_iff.1 (by rw [←xI,e];rfl),fun e=>List.length_eq_zero_iff.1 (by rw [xI,e];rfl)⟩
                 clear sM xI e0 mW xp call xh fq pL xo xL cb jh b5 sg pB
                 generalize kE aI=aI at *
                 cases aI with
                 | nil=>
                   have:([]:List (List UInt8))=[]:=rfl
                   cases he
                   rw [aK.2 this]
                   exact ⟨E,_,rfl,fun _ _ q=>q,by simp only [Rel],s.below bD⟩
                 | cons x l=>
                   simp only at he
                   cases km:hf h (oO (x::l)) 1 false with
                   | none=>rw [km] at he;cases he
                   | some aa=>
                     rw [km] at he
                     simp only [aV.val.injEq] at he
                     obtain ⟨rfl,rfl⟩:=he
                     obtain ⟨bz,bZ⟩:=av
                     rcases bZ with ⟨_,bZ⟩ | ⟨mU,cap,cur,rfl,bZ,b6,eX,dv,dZ,fj⟩
                     · simp at bZ
                     · unfold hf at km
                       obtain ⟨ao,km⟩:=dL km
                       simp only [Bool.and_eq_true,Nat.ble_eq] at ao
                       simp only [Option.some.injEq] at km
                       subst km
                       have dj:E.put (ay h.next) ⟨mU,0,cap⟩ (ay h.next)=some ⟨mU,0,cap⟩:=by unfold Env.put;rw [if_pos rfl]
                       have hle:E.le (E.put (ay h.next) ⟨mU,0,cap⟩):=Env.jn (s.fresh h.next (Nat.le_refl _))
                       refine ⟨_,_,rfl,hle,?_,s.add (p:=⟨mU,0,cap⟩) bD.size (fun j bI _=>bD.block j bI) (Nat.le_trans s.frame.size bZ) (fun bC dS fJ lK dA=>?_) bD.os bD.tape bD.output (fun _ _ _ e=>by injection e with _ _ cz;omega) ?_⟩
                       · simp only [Rel]
                         exact ⟨_,dj,by simp only [Nat.zero_add];omega,by simp only [Nat.add_zero,Nat.sub_zero]⟩
                       · have:=OH s fJ lK
                         simp only at dA
                         omega
                       · have gb:=w5 (a8.mono hle _ _ (Ip E (x::l))) ao.1 (cur.toList.drop ((x::l).length * 1)).toArray
                         have Fs:((x::l).map encStr).toArray++(cur.toList.drop ((x::l).length * 1)).toArray=cur:=by
                          rw [←fj,←Array.toList_inj]
                          simp
                         rw [Fs] at gb
                         exact ⟨ao.1,⟨mU,0,cap⟩,cur,bV,(0,0),dj,Nat.le_trans s.frame.size bZ,b6,.inr (Nat.le_refl _),fun _=>rfl,fun _=>by simp only;omega,gb⟩
           · cases he
         · cases he
     · cases he
end Go.Proofs.YtkehcalakofigaaGreatDoor.aS
namespace Go.Proofs.YtkehcalakofigaaGreatDoor.aS
variable [Lay]
open Go Go.RowKit
section
variable {α:Type}
def oW (e:α→V):List (List UInt8 × α)→List b1→Prop
 | [],[]=>True
 | (s,a)::bB,m::es=>m.k=.str s∧m.v=e a∧oW e bB es
 | _,_=>False
def mv (s:List UInt8):List (List UInt8 × α)→Option α
 | []=>none
 | (n,a)::bB=>if s=n then some a else mv s bB
def nD (s:List UInt8) (x:α):List (List UInt8 × α)→List (List UInt8 × α)
 | []=>[(s,x)]
 | (n,a)::bB=>if s=n then (s,x)::bB else (n,a)::nD s x bB
structure hl (e:α→V) (h:af) (b:aO) (bB:List (List UInt8 × α)):Prop where
 ex:∃es clock,h.get b=.mp es clock∧oW e bB es∧lA clock 0 es=true
 bR:Old h b
theorem NP:∀a b:List UInt8,mw a b=decide (a<b)
 | [],[]=>by simp [mw]
 | [],b::y=>by simp [mw]
 | a::x,[]=>by simp [mw]
 | a::x,b::y=>by
   simp only [mw,NP x y,List.cons_lt_cons_iff]
   have aN:Nat.blt a.toNat b.toNat=decide (a<b):=by
    rw [Bool.eq_iff_iff,Nat.blt_eq,decide_eq_true_eq,UInt8.lt_iff_toNat_lt]
   have aY:Nat.beq a.toNat b.toNat=decide (a=b):=by
    rw [Bool.eq_iff_iff,Nat.beq_eq,decide_eq_true_eq]
    exact ⟨fun q=>UInt8.toNat.inj q,fun q=>by rw [q]⟩
   rw [aN,aY]
   by_cases bs:a<b
   · simp [bs]
   · by_cases bN:a=b
     · subst bN;simp [bs]
     · simp [bs,bN]
theorem SI (a b:List UInt8):kc a b=decide (a=b):=by
 induction a generalizing b with
 | nil=>cases b<;>simp [kc]
 | cons x a bf=>
   cases b with
   | nil=>simp [kc]
   | cons y b=>
     simp only [kc,bf]
     have aY:Nat.beq x.toNat y.toNat=decide (x=y):=by
      rw [Bool.eq_iff_iff,Nat.beq_eq,decide_eq_true_eq]
      exact ⟨fun q=>UInt8.toNat.inj q,fun q=>by rw [q]⟩
     rw [aY]
     by_cases c:x=y
     · subst c;simp
     · simp [c]
theorem PQ (s n:List UInt8):kR.run (.str s) (.str n)=some (decide (s=n)):=by
 simp only [kR,SI]
variable {e:α→V} {h ab:af} {b:aO} {bB:List (List UInt8 × α)} {es:List b1}
theorem oW.find (H:oW e bB es) (s:List UInt8):jd kR (.str s) es=some ((mv s bB).map e):=by
 induction bB generalizing es with
 | nil=>
   cases es with
   | nil=>rfl
   | cons m es=>exact H.elim
 | cons p bB bf=>
   obtain ⟨n,a⟩:=p
   cases es with
   | nil=>exact H.elim
   | cons m es=>
     obtain ⟨aa,ae,aF⟩:=H
     simp only [jd,aa,PQ,mv]
     by_cases q:s=n
     · subst q;simp [ae]
     · simp only [q,decide_false,cond_false,if_false]
       exact bf aF
theorem oW.put (H:oW e bB es) (s:List UInt8) (x:α) (clock:Nat) (bG:Nat) (ek:bG≤clock) (B:lA clock bG es=true):
 ∃hH f,j2 kR (.str s) (e x) clock es=some (hH,f)∧oW e (nD s x bB) hH∧lA (bif f then clock+1 else clock) bG hH=true:=by
 induction bB generalizing es bG with
 | nil=>
   cases es with
   | nil=>
     refine ⟨_,true,rfl,⟨rfl,rfl,trivial⟩,?_⟩
     simp only [lA,cond_true,Bool.and_true,Bool.and_eq_true,Nat.ble_eq,Nat.blt_eq]
     omega
   | cons m es=>exact H.elim
 | cons p bB bf=>
   obtain ⟨n,a⟩:=p
   cases es with
   | nil=>exact H.elim
   | cons m es=>
     obtain ⟨aa,ae,aF⟩:=H
     simp only [lA,Bool.and_eq_true,Nat.ble_eq,Nat.blt_eq] at B
     obtain ⟨⟨b7,b_⟩,gN⟩:=B
     simp only [j2,aa,PQ,nD]
     by_cases q:s=n
     · subst q
       refine ⟨⟨.str s,e x,m.born⟩::es,false,by simp only [decide_true,cond_true],?_,?_⟩
       · rw [if_pos rfl];exact ⟨rfl,rfl,aF⟩
       · simp only [cond_false,lA,gN,Bool.and_true,Bool.and_eq_true,Nat.ble_eq,Nat.blt_eq];exact ⟨b7,b_⟩
     · obtain ⟨hH,f,aq,av,aK⟩:=bf (bG:=m.born+1) aF (by omega) gN
       refine ⟨m::hH,f,by simp only [q,decide_false,cond_false,aq],by rw [if_neg q];exact ⟨aa,ae,av⟩,?_⟩
       simp only [lA,aK,Bool.and_true,Bool.and_eq_true,Nat.ble_eq,Nat.blt_eq]
       refine ⟨b7,?_⟩
       cases f<;>simp only [cond_true,cond_false]<;>omega
theorem hl.ext (H:hl e h b bB) (x:Ext h ab):hl e ab b bB:=by
 obtain ⟨es,clock,aq,av,aK⟩:=H.ex
 exact ⟨⟨es,clock,by rw [x.get b H.bR];exact aq,av,aK⟩,x.bR H.bR⟩
theorem hl.mod {M:aO→Prop} (H:hl e h b bB) (m:Mod M h ab) (ag:¬M b):hl e ab b bB:=by
 obtain ⟨es,clock,aq,av,aK⟩:=H.ex
 exact ⟨⟨es,clock,by rw [m.get b H.bR ag];exact aq,av,aK⟩,m.bR H.bR⟩
theorem hl.look (H:hl e h b bB) (s:List UInt8) (z:V) (ok:Bool):iq kR z ok h (.map b) (.str s)=some (match mv s bB with
 | some a=>(bif ok then .tuple [e a,.bool true] else e a)
 | none=>(bif ok then .tuple [z,.bool false] else z)):=by
 obtain ⟨es,clock,aq,av,aK⟩:=H.ex
 simp only [iq,aq,nw,oE,bW.iw,av.find]
 cases mv s bB<;>rfl
theorem hl.oQ (H:hl e h b bB) (s:List UInt8) (x:α):∃ab,mI kR h (.map b) (.str s) (e x)=some ab∧hl e ab b (nD s x bB)∧Mod (fun p=>p=b) h ab∧ab.next=h.next:=by
 obtain ⟨es,clock,aq,av,aK⟩:=H.ex
 obtain ⟨hH,f,bz,bZ,b6⟩:=av.put s x clock 0 (Nat.zero_le _) aK
 refine ⟨h.set b (.mp hH (bif f then clock+1 else clock)),by simp only [mI,aq,bW.iw,bz],⟨⟨hH,_,by rw [di,if_pos rfl],bZ,b6⟩,?_⟩,(Mod.refl (fun p=>p=b) h).set (fun _=>rfl) _,rfl⟩
 exact ((Mod.refl (fun p=>p=b) h).set (fun _=>rfl) _).bR H.bR
theorem hl.new (e:α→V) (h:af):hl e (h.new (.mp [] 0)) (ay h.next) []:=
 ⟨⟨[],0,mV _,trivial,rfl⟩,fh (by rw [e7];omega)⟩
theorem oW.keys (H:oW e bB es):lN es=some (bB.map Prod.fst):=by
 induction bB generalizing es with
 | nil=>
   cases es with
   | nil=>rfl
   | cons m es=>exact H.elim
 | cons p bB bf=>
   obtain ⟨n,a⟩:=p
   cases es with
   | nil=>exact H.elim
   | cons m es=>
     obtain ⟨aa,ae,aF⟩:=H
     simp only [lN,aa,bf aF,List.map_cons]
theorem NK (s:List UInt8) (x:α) (t:List UInt8):∀bB:List (List UInt8 × α),mv t (nD s x bB)=if t=s then some x else mv t bB
 | []=>by simp only [nD,mv]
 | (n,a)::bB=>by
   simp only [nD]
   by_cases q:s=n
   · subst q
     simp only [if_true,mv]
     split<;>rfl
   · rw [if_neg q]
     simp only [mv,NK s x t bB]
     by_cases r:t=n
     · rw [if_pos r,if_neg (fun z=>q (z.symm.trans r)),if_pos r]
     · rw [if_neg r,if_neg r]
theorem Nl (s:List UInt8) (x:α):∀bB:List (List UInt8 × α),(nD s x bB).map Prod.fst=if s ∈ bB.map Prod.fst then bB.map Prod.fst else bB.map Prod.fst++[s]
 | []=>by simp [nD]
 | (n,a)::bB=>by
   simp only [nD]
   by_cases q:s=n
   · subst q;simp
   · rw [if_neg q,List.map_cons,Nl s x bB,List.map_cons]
     simp only [List.mem_cons,q,false_or]
     split<;>simp
end
end Go.Proofs.YtkehcalakofigaaGreatDoor.aS
namespace Go.Proofs.YtkehcalakofigaaGreatDoor.aS
variable [Lay]
open Go Go.RowKit
end Go.Proofs.YtkehcalakofigaaGreatDoor.aS
