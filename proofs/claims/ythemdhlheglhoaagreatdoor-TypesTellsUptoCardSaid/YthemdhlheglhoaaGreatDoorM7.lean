/- The abstract machine and its walks (a verified interpreter of the model's code: plain definitions and lemmas, no condition). Printed by a program from longer texts: names made short. -/
import Derived.Test.YthemdhlheglhoaaGreatDoorM4
import Derived.Shelf.SlIter.Sorted
import Derived.Shelf.SlIter.Nil
import Derived.StringKeys
import Derived.WideShapes
import Derived.Lib.ItoaNum
import Derived.Lib.Join
import Derived.Shelf.SlIterI.Sorted
import Derived.Shelf.SlIterI.Nil
set_option linter.unusedSectionVars false
set_option linter.unusedSimpArgs false
set_option linter.unusedVariables false
namespace Go.Proofs.YthemdhlheglhoaaGreatDoor.aX
variable [Lay]
open Go Go.RowKit
end Go.Proofs.YthemdhlheglhoaaGreatDoor.aX
namespace Go.Proofs.YthemdhlheglhoaaGreatDoor.aX
variable [Lay]
open Go Go.RowKit Go.Maps Go.Sort Go.Shelf
open Go.Proofs (encStr)
def na (clock:Nat):Nat→List cO→Bool
 | _,[]=>true
 | bR,m::ms=>Nat.ble bR m.born&&Nat.blt m.born clock&&na clock (m.born+1) ms
theorem L_ {clock:Nat}:∀{bR:Nat} {es:List cO},na clock bR es=true→(∀n ∈ es.map (·.born),bR≤n∧n<clock)∧(es.map (·.born)).Nodup
 | bR,[],_=>⟨by simp,by simp⟩
 | bR,m::ms,h=>by
   simp only [na,Bool.and_eq_true,Nat.ble_eq,Nat.blt_eq] at h
   obtain ⟨g1,g2⟩:=L_ h.2
   refine ⟨fun n aU=>?_,?_⟩
   · rw [List.map_cons] at aU
     rcases List.mem_cons.1 aU with rfl | aU
     · exact h.1
     · have:=g1 n aU
       omega
   · rw [List.map_cons]
     refine List.nodup_cons.2 ⟨fun q=>?_,g2⟩
     have:=g1 _ q
     omega
theorem aic {aw:Fr} {E:Env} {h:af} {w:World} (s:a' aw E h w) {b:aP} {q:ih} (aT:(h.get b).own=true) (aA:E b=some q):q.aW<w.heap.size:=by
 have ag:=s.at aA
 cases aH:h.get b with
 | dead=>rw [aH] at aT;cases aT
 | view n cs=>rw [aH] at aT;cases aT
 | cells n cs cy st=>rw [aH] at ag;obtain ⟨_,ej,c,el,bW,e,_,bf,_⟩:=ag;rw [e] at aA;cases aA;exact (Array.getElem?_eq_some_iff.1 bf).1
 | iter st pos=>rw [aH] at ag;obtain ⟨ej,e,_,_,bf⟩:=ag;rw [e] at aA;cases aA;exact (Array.getElem?_eq_some_iff.1 bf).1
 | mp es clock=>rw [aH] at ag;obtain ⟨ej,a,e,_,bf,_⟩:=ag;rw [e] at aA;cases aA;exact (Array.getElem?_eq_some_iff.1 bf).1
 | cr l=>rw [aH] at ag;obtain ⟨ej,o,e,_,bf,_⟩:=ag;rw [e] at aA;cases aA;exact (Array.getElem?_eq_some_iff.1 bf).1
 | er=>rw [aH] at ag;obtain ⟨ej,e,_,bf⟩:=ag;rw [e] at aA;cases aA;exact (Array.getElem?_eq_some_iff.1 bf).1
 | iz es=>rw [aH] at ag;obtain ⟨ej,a,c,l,e,_,bf,_⟩:=ag;rw [e] at aA;cases aA;exact (Array.getElem?_eq_some_iff.1 bf).1
 | iy src since seen last=>rw [aH] at ag;obtain ⟨ej,m,a,e,_,_,bf,_⟩:=ag;rw [e] at aA;cases aA;exact (Array.getElem?_eq_some_iff.1 bf).1
end Go.Proofs.YthemdhlheglhoaaGreatDoor.aX
namespace Go.Proofs.YthemdhlheglhoaaGreatDoor.aX
variable [Lay]
open Go Go.RowKit
noncomputable def rm (cs:T V) (off:Nat):Nat→Option (List (List UInt8))
 | 0=>some []
 | n+1=>(match T.get .bad (al off) cs with
   | .str s=>(match rm cs (off+1) n with
     | some l=>some (s::l)
     | none=>none)
   | _=>none)
def Km (r:List UInt8) (h:af):aY:=bif Nat.ble r.length 1000000 then .val (.str r) h else .fail
noncomputable def w7 (h:af) (b:aP) (off len:Nat) (sep:List UInt8):aY:=
 match h.get b with
 | .cells n cs _ _=>bif Nat.ble (off+len) n&&Nat.ble len 1000000 then (match rm cs off len with
   | some l=>Km (Lib.join l sep) h
   | none=>.fail) else .fail
 | _=>.fail
noncomputable def w8:vw:=⟨fun args h=>match args with
 | [x,y]=>(match y with
   | .str sep=>(match x with
     | .b6=>.val (.str []) h
     | .slice b off len _=>w7 h b off len sep
     | .eC b off len _=>w7 h b off len sep
     | _=>.fail)
   | _=>.fail)
 | _=>.fail⟩
structure Ep (P:Program) (f:FuncId):Prop where
 many:∀(yD o c:Nat) (xs:List ByteArray) (sep:ByteArray) (w:World),(∀(j:Nat) x,xs[j]? =some x→w.cell? ⟨yD,o+j,none⟩=some (.string x))→yD<w.heap.size→xs.length≤140737488355328→xs.length≤c→
  (Lib.join (xs.map (·.data.toList)) sep.data.toList).length≤140737488355328→
  Calls P f #[.slice (some ⟨yD,o,none⟩) xs.length c,.string sep] w fun e ao=>e=.returned (.string ⟨(Lib.join (xs.map (·.data.toList)) sep.data.toList).toArray⟩)∧Below w.heap.size w ao
 ahv:∀(a:Option Addr) (c:Nat) (sep:ByteArray) (w:World),Calls P f #[.slice a 0 c,.string sep] w fun e ao=>e=.returned (.string ⟨#[]⟩)∧ao=w
theorem SJ {cs:T V}:∀{n off:Nat} {l:List (List UInt8)},rm cs off n=some l→l.length=n∧∀j s,l[j]? =some s→T.get .bad (al (off+j)) cs=.str s
 | 0,off,l,h=>by
   simp only [rm,Option.some.injEq] at h
   subst h
   exact ⟨rfl,fun j s h=>by simp at h⟩
 | n+1,off,l,h=>by
   simp only [rm] at h
   split at h
   case h_2=>cases h
   rename_i s aQ
   cases aJ:rm cs (off+1) n with
   | none=>rw [aJ] at h;cases h
   | some cR=>
     rw [aJ] at h
     simp only [Option.some.injEq] at h
     subst h
     obtain ⟨g1,g2⟩:=SJ aJ
     refine ⟨by simp [g1],fun j t aF=>?_⟩
     cases j with
     | zero=>
       simp only [List.getElem?_cons_zero,Option.some.injEq] at aF
       subst aF
       exact aQ
     | succ j=>
       have:=g2 j t (by simpa using aF)
       rw [show off + (j+1)=off+1+j from by omega]
       exact this
theorem PF {P:Program} {f:FuncId} (K:Ep P f) {h aa:af} {b:aP} {off len:Nat} {sep:List UInt8} {v:V} (he:w7 h b off len sep=.val v aa) {aw:Fr} {E:Env} {w:World} (s:a' aw E h w) {p:ih} (ah:E b=some p) {c:Nat} (aI:len≤c):
 Calls P f #[.slice (some ⟨p.aW,p.base+off,none⟩) len c,.string ⟨⟨sep⟩⟩] w fun e ao=>∃av x,e=.returned x∧E.le av∧Rel av v x∧a' aw av aa ao:=by
 unfold w7 at he
 split at he
 case h_2=>cases he
 rename_i n cs cy st ji
 obtain ⟨acg,he⟩:=jg he
 simp only [Bool.and_eq_true,Nat.ble_eq] at acg
 cases ai:rm cs off len with
 | none=>rw [ai] at he;cases he
 | some L=>
   rw [ai] at he
   simp only [Km] at he
   obtain ⟨acT,he⟩:=jg he
   rw [Nat.ble_eq] at acT
   simp only [aY.val.injEq] at he
   obtain ⟨rfl,rfl⟩:=he
   obtain ⟨g1,g2⟩:=SJ ai
   have ag:=s.at ah
   rw [ji] at ag
   obtain ⟨_,p',MH,el,bW,aK,_,pH,_,_,_,y1⟩:=ag
   rw [ah] at aK;cases aK
   have aL:=(Array.getElem?_eq_some_iff.1 pH).1
   have lX:(L.map fun x=>(⟨⟨x⟩⟩:ByteArray)).map (·.data.toList)=L:=by
    rw [List.map_map]
    exact (List.map_congr_left (fun _ _=>rfl)).trans (List.map_id L)
   have cells:∀(j:Nat) (x:ByteArray),(L.map fun x=>(⟨⟨x⟩⟩:ByteArray))[j]? =some x→w.cell? ⟨p.aW,p.base+off+j,none⟩=some (.string x):=by
    intro j x aq
    rw [List.getElem?_map] at aq
    cases ei:L[j]? with
    | none=>rw [ei] at aq;cases aq
    | some t=>
      rw [ei] at aq
      cases aq
      have bK:j<len:=by rw [←g1];exact (List.getElem?_eq_some_iff.1 ei).1
      have ca:p.base+off+j<MH.size:=by have:=y1.1;omega
      have aJ:=y1.2 (off+j) MH[p.base+off+j] (by omega) (by rw [←Nat.add_assoc];exact Array.getElem?_eq_getElem ca)
      rw [g2 j t ei] at aJ
      simp only [Rel] at aJ
      simp only [World.cell?,pH]
      rw [←aJ]
      exact Array.getElem?_eq_getElem ca
   have:=K.many p.aW (p.base+off) c (L.map fun x=>(⟨⟨x⟩⟩:ByteArray)) ⟨⟨sep⟩⟩ w cells aL (by rw [List.length_map];omega) (by rw [List.length_map];omega) (by rw [lX];show (Lib.join L sep).length≤_;omega)
   rw [lX,List.length_map,g1] at this
   refine this.mono fun e ao q=>?_
   exact ⟨E,_,q.1,fun _ _ q=>q,by simp only [Rel],s.below q.2⟩
theorem PG {P:Program} {f:FuncId} (K:Ep P f) {args:List V} {h aa:af} {v:V} (he:w8.run args h=.val v aa)
 (aw:Fr) (E:Env) (w:World) (xs:List Value) (aq:bc E args xs) (s:a' aw E h w):
 Calls P f xs.toArray w fun e ao=>∃av x,e=.returned x∧E.le av∧Rel av v x∧a' aw av aa ao:=by
 simp only [w8] at he
 split at he
 case h_2=>cases he
 rename_i x y
 split at he
 case h_2=>cases he
 rename_i sep
 obtain ⟨X,_,rfl,an,Y,_,rfl,az,rfl⟩:=aq
 simp only [Rel] at az
 subst az
 cases x<;>simp only at he<;>first
  | (cases he;done)
  | skip
 · simp only [Rel] at an
   obtain ⟨p,ah,aI,rfl⟩:=an
   exact PF K he s ah aI
 · simp only [Rel] at an
   obtain ⟨p,ah,aI,rfl⟩:=an
   exact PF K he s ah (by omega)
 · simp only [aY.val.injEq] at he
   obtain ⟨rfl,rfl⟩:=he
   simp only [Rel] at an
   subst an
   refine (K.ahv none 0 ⟨⟨sep⟩⟩ w).mono fun e ao q=>?_
   obtain ⟨an,rfl⟩:=q
   exact ⟨E,_,an,fun _ _ q=>q,by simp only [Rel],s⟩
end Go.Proofs.YthemdhlheglhoaaGreatDoor.aX
namespace Go.Proofs.YthemdhlheglhoaaGreatDoor.aX
variable [Lay]
open Go Go.RowKit Go.Maps Go.Sort Go.Shelf
theorem agA (a b:Int):Int.leB a b=decide (a≤b):=nA a b
theorem aaA (a b:Int):Int.gb a b=decide (a=b):=by rw [kr];rfl
variable (k:IntKind) (a b:Int)
def w5 (x:Int):List Int→List Int
 | []=>[x]
 | y::l=>bif Int.leB x y then x::y::l else y::w5 x l
def u5:List Int→List Int
 | []=>[]
 | x::l=>w5 x (u5 l)
theorem IB (x:Int):∀l,(w5 x l).Perm (x::l)
 | []=>List.Perm.refl _
 | y::l=>by
   simp only [w5]
   cases Int.leB x y with
   | true=>exact List.Perm.refl _
   | false=>exact ((IB x l).cons y).trans (List.Perm.swap x y l)
theorem Ke:∀l,(u5 l).Perm l
 | []=>List.Perm.refl _
 | x::l=>(IB x _).trans ((Ke l).cons x)
theorem Pw (x:Int):∀l:List Int,l.Pairwise (·≤·)→(w5 x l).Pairwise (·≤·)
 | [],_=>List.pairwise_singleton _ _
 | y::l,h=>by
   simp only [w5,agA]
   by_cases w2:x≤y
   · rw [decide_eq_true w2]
     refine List.pairwise_cons.2 ⟨fun z bo=>?_,h⟩
     rcases List.mem_cons.1 bo with rfl | bo
     · exact w2
     · exact Int.le_trans w2 ((List.pairwise_cons.1 h).1 z bo)
   · rw [decide_eq_false w2]
     refine List.pairwise_cons.2 ⟨fun z bo=>?_,Pw x l (List.pairwise_cons.1 h).2⟩
     rcases List.mem_cons.1 ((IB x l).mem_iff.1 bo) with rfl | bo
     · omega
     · exact (List.pairwise_cons.1 h).1 z bo
theorem Sx:∀l,(u5 l).Pairwise (·≤·)
 | []=>.nil
 | x::l=>Pw x _ (Sx l)
theorem ajR {l m:List Int} (h:m.Perm l):m.mergeSort (fun x y=>decide (x≤y))=u5 l:=by
 have ah:(m.mergeSort (fun x y=>decide (x≤y))).Perm (u5 l):=((List.mergeSort_perm m _).trans h).trans (Ke l).symm
 have aQ:(m.mergeSort (fun x y=>decide (x≤y))).Pairwise (·≤·):=by
  have:=List.pairwise_mergeSort (le:=fun x y:Int=>decide (x≤y)) (fun a b c ab ae=>by simp only [decide_eq_true_eq] at *;omega) (fun a b=>by simp only [Bool.or_eq_true,decide_eq_true_eq];omega) m
  exact this.imp (fun h=>by simpa using h)
 exact ah.eq_of_pairwise (fun a b _ _ ab ae=>Int.le_antisymm ab ae) aQ (Sx l)
def oD:List cO→Option (List Int)
 | []=>some []
 | m::ms=>match m.k with
   | .int .i64 n=>(match oD ms with
     | some l=>some (n::l)
     | none=>none)
   | _=>none
def C2 (x:Int):List Int→Bool
 | []=>false
 | y::l=>Int.gb x y||C2 x l
def z8:List Int→Bool
 | []=>true
 | x::l=>!C2 x l&&z8 l
def AH:List Int→Bool
 | []=>true
 | x::l=>(Lit.int .i64 x).wf&&AH l
def CN (l:List Int):List V:=l.map (V.int .i64)
noncomputable def Sz (g:FuncId) (yA:aP) (h:af):aY:=
 match h.get yA with
 | .cells n cs 0 _=>bif Nat.blt 0 n then (match T.get .bad (al 0) cs with
   | .map b=>(match h.get b with
     | .mp es clock=>(match oD es with
       | some aM=>bif z8 aM&&na clock 0 es&&AH aM&&Nat.ble es.length 1000000 then (match u5 aM with
          | []=>.val .b6 h
          | x::l=>(match iV h (CN (x::l)) 1 false with
            | some aa=>.val (.eC (al h.next) 0 (x::l).length 0) aa
            | none=>.fail)) else .fail
       | none=>.fail)
     | _=>.fail)
   | _=>.fail) else .fail
 | _=>.fail
noncomputable def Kf (g:FuncId):vw:=
 ⟨fun args h=>match args with
   | [.func f [.ptr yA 0]]=>bif Nat.beq f g then Sz g yA h else .fail
   | _=>.fail⟩
theorem PQ:∀{es:List cO} {aM:List Int},oD es=some aM→aM.length=es.length
 | [],aM,h=>by simp only [oD,Option.some.injEq] at h;subst h;rfl
 | m::ms,aM,h=>by
   unfold oD at h
   split at h
   · cases aA:oD ms with
     | none=>rw [aA] at h;cases h
     | some l=>
       rw [aA] at h
       simp only [Option.some.injEq] at h
       subst h
       simp [PQ aA]
   · cases h
theorem PR {E:Env}:∀{es:List cO} {aM:List Int} {l:List MapEntry},oD es=some aM→ee E es l→l.map (·.key)=aM.map (Value.int .i64)∧l.map (·.born)=es.map (·.born)
 | [],aM,l,h,aJ=>by
   simp only [oD,Option.some.injEq] at h
   simp only [ee] at aJ
   subst h aJ
   exact ⟨rfl,rfl⟩
 | m::ms,aM,l,h,aJ=>by
   simp only [ee] at aJ
   obtain ⟨e,hq,rfl,ab,ae,aG,ba⟩:=aJ
   unfold oD at h
   split at h
   · rename_i n aE
     cases aA:oD ms with
     | none=>rw [aA] at h;cases h
     | some l=>
       rw [aA] at h
       simp only [Option.some.injEq] at h
       subst h
       obtain ⟨g1,g2⟩:=PR aA ba
       rw [aE] at ab
       simp only [Rel] at ab
       simp only [List.map_cons,g1,g2,ab,aG,and_self]
   · cases h
theorem Qw {x:Int}:∀{l:List Int},C2 x l=false→x ∉ l
 | [],_=>by simp
 | y::l,h=>by
   simp only [C2,Bool.or_eq_false_iff] at h
   have ab:¬x=y:=by
    intro q
    have:=h.1
    rw [aaA,decide_eq_false_iff_not] at this
    exact this q
   rw [List.mem_cons]
   rintro (q | q)
   · exact ab q
   · exact Qw h.2 q
theorem QF:∀{l:List Int},z8 l=true→l.Nodup
 | [],_=>List.nodup_nil
 | x::l,h=>by
   simp only [z8,Bool.and_eq_true,Bool.not_eq_true'] at h
   exact List.nodup_cons.2 ⟨Qw h.1,QF h.2⟩
theorem Tg:∀{l:List Int},AH l=true→∀x ∈ l,(Lit.int .i64 x).wf=true
 | [],_,x,aq=>by cases aq
 | y::l,h,x,aq=>by
   simp only [AH,Bool.and_eq_true] at h
   rcases List.mem_cons.1 aq with rfl | aq
   · exact h.1
   · exact Tg h.2 x aq
theorem ahs {l:List Int} (h:l.Nodup):(l.map (Value.int .i64)).Nodup:=by
 induction l with
 | nil=>exact List.nodup_nil
 | cons x l bk=>
   obtain ⟨ab,ae⟩:=List.nodup_cons.1 h
   rw [List.map_cons]
   refine List.nodup_cons.2 ⟨fun q=>?_,bk ae⟩
   obtain ⟨y,a_,e⟩:=List.mem_map.1 q
   cases e
   exact ab a_
def Ls (P:Program) (f g:FuncId) (cm:TypeId):Prop:=
 ∀(qg b I':Nat) (rD:DataW Unit) (R:Value→Option (DataW Unit × List MemPlace)) (w:World),qg<w.heap.size→w.cell? ⟨qg,0,none⟩=some (.map (some b))→w.ownsMap P cm R b I' rD→Maps.size rD≤maxLen→Maps.size rD * 8≤140737488355328→
  Calls P f #[.func (.func g) #[] #[.pointer (some ⟨qg,0,none⟩)]] w fun e ao=>∃(v:Value) (fe:List Int),e=.returned v∧fe.Perm (intKeys rD)∧
   ao.ownsRow w.heap.size cm 1 v fe.length ((fe.mergeSort (fun x y=>decide (x≤y))).map encZ)∧(v=.slice none 0 0↔fe=[])∧Below w.heap.size w ao
theorem Py (E:Env):∀l:List Int,bc E (CN l) (l.map encZ)
 | []=>rfl
 | x::l=>by
   simp only [CN,List.map_cons,bc]
   exact ⟨_,_,rfl,by simp only [Rel],Py E l⟩
theorem ajU {P:Program} {f g:FuncId} {cm:TypeId} (Co:g≠dk) (gT:P.underlying cm=some (.int .i64)) (C:Ls P f g cm) {args:List V} {h aa:af} {v:V} (he:(Kf g).run args h=.val v aa)
 (aw:Fr) (E:Env) (w:World) (xs:List Value) (aq:bc E args xs) (s:a' aw E h w):
 Calls P f xs.toArray w fun e ao=>∃av x,e=.returned x∧E.le av∧Rel av v x∧a' aw av aa ao:=by
 match args,he,aq with
 | [.func v8 [.ptr yA 0]],he,aq=>
   simp only [Kf] at he
   cases Hw:Nat.beq v8 g with
   | false=>rw [Hw] at he;cases he
   | true=>
     rw [Hw] at he
     simp only [cond_true] at he
     have acE:v8=g:=Nat.eq_of_beq_eq_true Hw
     subst acE
     simp only [bc] at aq
     obtain ⟨y,_,rfl,a_,rfl⟩:=aq
     simp only [Rel] at a_
     obtain ⟨_,a,rfl,q,_,bq,aA,rfl⟩ | ⟨adZ,_⟩:=a_
     rotate_left
     · exact absurd adZ Co
     obtain ⟨p,ah,rfl⟩:=aA
     have ab4:a=#[.pointer (some ⟨p.aW,p.base+0,none⟩)]:=by
      rw [←Array.toList_inj,bq]
     subst ab4
     unfold Sz at he
     split at he
     · rename_i n cs st hK
       have mu:=s.base yA p n cs st hK ah
       have ji:=s.at ah
       rw [hK] at ji
       obtain ⟨_,p',c,el,bW,aK,_,pH,_,_,_,y1⟩:=ji
       rw [ah] at aK;cases aK
       cases aU:Nat.blt 0 n with
       | false=>rw [aU] at he;cases he
       | true=>
         rw [aU] at he
         simp only [cond_true] at he
         rw [Nat.blt_eq] at aU
         split at he
         · rename_i b lX
           have Cj:0<c.size:=by have:=y1.1;omega
           have jm:=y1.2 0 c[0] aU (by rw [mu];exact Array.getElem?_eq_getElem Cj)
           rw [lX] at jm
           simp only [Rel] at jm
           obtain ⟨xr,OU,tS⟩:=jm
           split at he
           · rename_i es clock nm
             have OL:=s.at OU
             rw [nm] at OL
             obtain ⟨amI,am,aS,_,ac9,pK⟩:=OL
             rw [OU] at aS;cases aS
             cases h7:oD es with
             | none=>rw [h7] at he;cases he
             | some aM=>
               rw [h7] at he
               simp only at he
               cases Cn:(z8 aM&&na clock 0 es&&AH aM&&Nat.ble es.length 1000000) with
               | false=>rw [Cn] at he;cases he
               | true=>
                 rw [Cn] at he
                 simp only [cond_true] at he
                 simp only [Bool.and_eq_true,Nat.ble_eq] at Cn
                 obtain ⟨⟨⟨g1,g2⟩,g3⟩,g4⟩:=Cn
                 obtain ⟨bz,bZ⟩:=PR h7 pK
                 have HI:=PQ h7
                 have Oj:am.size=aM.length:=by
                  have:=congrArg List.length bz
                  simpa using this
                 obtain ⟨cC,ck⟩:=L_ g2
                 have wI:maxLen=9223372036854775807:=by decide
                 have adE:MapKept.Stamped am clock:=by
                  refine ⟨fun x aq=>?_,by rw [bZ];exact ck,by rw [bz];exact ahs (QF g1)⟩
                  have:x.born ∈ es.map (·.born):=by rw [←bZ];exact List.mem_map_of_mem aq
                  exact (cC _ this).2
                 have acU:∀x ∈ am.toList,∃n ∈ aM,x.key=.int .i64 n:=by
                  intro x aq
                  have:x.key ∈ am.toList.map (·.key):=List.mem_map_of_mem aq
                  rw [bz] at this
                  obtain ⟨n,aU,e⟩:=List.mem_map.1 this
                  exact ⟨n,aU,e.symm⟩
                 have Cy:∀x ∈ am.toList,∃n,x.key=.int .i64 n∧WideElems.rd P cm (fun _=>some ((.nil:DataW Unit),[])) x=some (.int .i64 n,.nil):=by
                  intro x aq
                  obtain ⟨n,aU,e⟩:=acU x aq
                  refine ⟨n,e,?_⟩
                  unfold WideElems.rd
                  rw [e,Maps.keyOf_int_mk gT (Tg g3 n aU)]
                  rfl
                 have acF:WideElems.Fit P cm (fun _=>some ((.nil:DataW Unit),[])) am clock:=⟨by rw [Oj,HI,wI];omega,adE,fun x aq=>by obtain ⟨n,_,e⟩:=Cy x aq;exact ⟨_,e⟩⟩
                 have fi:w.ownsMap P cm (fun _=>some ((.nil:DataW Unit),[])) xr.aW am.size (.map ((am.toList.map (WideElems.rg P cm (fun _=>some ((.nil:DataW Unit),[])))).foldr DataW.insert [])):=⟨am,clock,ac9,acF,Nat.le_refl _,rfl⟩
                 have acV:(am.toList.map (WideElems.rg P cm (fun _=>some ((.nil:DataW Unit),[])))).map (fun p=>intOf p.1)=aM:=by
                  have bo:∀(l:List MapEntry) (iH:List Int),(∀x ∈ l,∃n,x.key=.int .i64 n∧WideElems.rd P cm (fun _=>some ((.nil:DataW Unit),[])) x=some (.int .i64 n,.nil))→l.map (·.key)=iH.map (Value.int .i64)→(l.map (WideElems.rg P cm (fun _=>some ((.nil:DataW Unit),[])))).map (fun p=>intOf p.1)=iH:=by
                   intro l
                   induction l with
                   | nil=>
                     intro iH _ e
                     cases iH with
                     | nil=>rfl
                     | cons z iH=>simp at e
                   | cons x l bk=>
                     intro iH d_ e
                     cases iH with
                     | nil=>simp at e
                     | cons z iH=>
                       simp only [List.map_cons,List.cons.injEq] at e
                       obtain ⟨n,aK,aS⟩:=d_ x (List.mem_cons_self ..)
                       have ad2:z=n:=by
                        have:=e.1.symm.trans aK
                        injection this
                       rw [List.map_cons,List.map_cons,bk iH (fun y a_=>d_ y (List.mem_cons_of_mem _ a_)) e.2]
                       unfold WideElems.rg
                       rw [aS,ad2]
                       rfl
                  exact bo am.toList aM Cy bz
                 have tO:(intKeys (.map ((am.toList.map (WideElems.rg P cm (fun _=>some ((.nil:DataW Unit),[])))).foldr DataW.insert []):DataW Unit)).Perm aM:=by
                  have:=(WideShapes.sorted_perm (am.toList.map (WideElems.rg P cm (fun _=>some ((.nil:DataW Unit),[]))))).map (fun p=>intOf p.1)
                  rw [acV] at this
                  exact this
                 have ca:Maps.size (.map ((am.toList.map (WideElems.rg P cm (fun _=>some ((.nil:DataW Unit),[])))).foldr DataW.insert []):DataW Unit)=aM.length:=by
                  rw [Maps.size_eq,length_sorted,List.length_map,Array.length_toList,Oj]
                 have aL:=(Array.getElem?_eq_some_iff.1 pH).1
                 have aci:w.cell? ⟨p.aW,0,none⟩=some (.map (some xr.aW)):=by
                  simp only [World.cell?,pH]
                  rw [←tS]
                  exact Array.getElem?_eq_getElem Cj
                 have call:=C p.aW xr.aW am.size _ _ w aL aci fi (by rw [ca,HI,wI];omega) (by rw [ca,HI];omega)
                 rw [show p.base+0=0 from by rw [mu]]
                 refine call.mono fun e ao q=>?_
                 obtain ⟨v0,fe,rfl,an,az,aN,bM⟩:=q
                 have gp:fe.Perm aM:=an.trans tO
                 rw [ajR gp] at az
                 have zw:fe.length=(u5 aM).length:=by rw [gp.length_eq,(Ke aM).length_eq]
                 split at he
                 · rename_i lf
                   have:fe=[]:=by
                    rw [lf] at zw
                    exact List.eq_nil_of_length_eq_zero zw
                   cases he
                   rw [aN.2 this]
                   exact ⟨E,_,rfl,fun _ _ q=>q,by simp only [Rel],s.below bM⟩
                 · rename_i x l zu
                   rw [zu] at zw az
                   cases t_:iV h (CN (x::l)) 1 false with
                   | none=>rw [t_] at he;cases he
                   | some ab=>
                     rw [t_] at he
                     simp only [aY.val.injEq] at he
                     obtain ⟨rfl,rfl⟩:=he
                     obtain ⟨bl,bT⟩:=az
                     rcases bT with ⟨_,bT⟩ | ⟨yV,cap,cur,rfl,bT,cg,c7,c1,eQ,lx⟩
                     · rw [zw] at bT;cases bT
                     · unfold iV at t_
                       obtain ⟨aI,t_⟩:=ef t_
                       simp only [Bool.and_eq_true,Nat.ble_eq] at aI
                       simp only [Option.some.injEq] at t_
                       subst t_
                       have dQ:E.put (al h.next) ⟨yV,0,cap⟩ (al h.next)=some ⟨yV,0,cap⟩:=by unfold Env.put;rw [if_pos rfl]
                       have hle:E.le (E.put (al h.next) ⟨yV,0,cap⟩):=Env.kK (s.fresh h.next (Nat.le_refl _))
                       refine ⟨_,_,rfl,hle,?_,s.add (p:=⟨yV,0,cap⟩) bM.size (fun j bK _=>bM.block j bK) (Nat.le_trans s.frame.size bT) (fun bP ej gU oy et=>?_) bM.os bM.tape bM.output (fun _ _ _ e=>by injection e with _ _ bn;omega) ?_⟩
                       · simp only [Rel]
                         exact ⟨_,dQ,by simp only [Nat.zero_add];omega,by simp only [Nat.add_zero,Nat.sub_zero,zw]⟩
                       · have:=aic s gU oy
                         simp only at et
                         omega
                       · have gG:=B3 (bc.mono hle _ _ (Py E (x::l))) aI.1 (cur.toList.drop (fe.length * 1)).toArray
                         have aco:((x::l).map encZ).toArray++(cur.toList.drop (fe.length * 1)).toArray=cur:=by
                          rw [←lx,←Array.toList_inj]
                          simp
                         rw [aco] at gG
                         exact ⟨aI.1,⟨yV,0,cap⟩,cur,cm,(0,0),dQ,Nat.le_trans s.frame.size bT,cg,.inr (Nat.le_refl _),fun _=>rfl,fun _=>by simp only;omega,gG⟩
           · cases he
         · cases he
     · cases he
end Go.Proofs.YthemdhlheglhoaaGreatDoor.aX
