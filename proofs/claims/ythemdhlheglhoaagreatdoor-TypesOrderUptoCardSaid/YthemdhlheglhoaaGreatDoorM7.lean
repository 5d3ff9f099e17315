/- The abstract machine and its walks (a verified interpreter of the model's code: plain definitions and lemmas, no condition). Printed by a program from longer texts: names made short. -/
import Derived.Test.YthemdhlheglhoaaGreatDoorM4
import Derived.Shelf.SlIter.Sorted
import Derived.Shelf.SlIter.Nil
import Derived.StringKeys
import Derived.WideShapes
import Derived.Lib.ItoaNum
import Derived.Lib.Join
import Derived.Shelf.SlIterI.Sorted
import Derived.Shelf.SlIterI.Nil
set_option linter.unusedSectionVars false
set_option linter.unusedSimpArgs false
set_option linter.unusedVariables false
namespace Go.Proofs.YthemdhlheglhoaaGreatDoor.aY
variable [Lay]
open Go Go.RowKit
end Go.Proofs.YthemdhlheglhoaaGreatDoor.aY
namespace Go.Proofs.YthemdhlheglhoaaGreatDoor.aY
variable [Lay]
open Go Go.RowKit Go.Maps Go.Sort Go.Shelf
open Go.Proofs (encStr)
def nH (clock:Nat):Nat→List cH→Bool
 | _,[]=>true
 | bG,m::ms=>Nat.ble bG m.born&&Nat.blt m.born clock&&nH clock (m.born+1) ms
theorem JA {clock:Nat}:∀{bG:Nat} {es:List cH},nH clock bG es=true→(∀n ∈ es.map (·.born),bG≤n∧n<clock)∧(es.map (·.born)).Nodup
 | bG,[],_=>⟨by simp,by simp⟩
 | bG,m::ms,h=>by
   simp only [nH,Bool.and_eq_true,Nat.ble_eq,Nat.blt_eq] at h
   obtain ⟨g1,g2⟩:=JA h.2
   refine ⟨fun n aS=>?_,?_⟩
   · rw [List.map_cons] at aS
     rcases List.mem_cons.1 aS with rfl | aS
     · exact h.1
     · have:=g1 n aS
       omega
   · rw [List.map_cons]
     refine List.nodup_cons.2 ⟨fun q=>?_,g2⟩
     have:=g1 _ q
     omega
theorem acD {aq:Fr} {E:Env} {h:af} {w:World} (s:a1 aq E h w) {b:aN} {q:iJ} (aQ:(h.get b).own=true) (av:E b=some q):q.bc<w.heap.size:=by
 have ah:=s.at av
 cases aE:h.get b with
 | dead=>rw [aE] at aQ;cases aQ
 | view n cs=>rw [aE] at aQ;cases aQ
 | cells n cs cP st=>rw [aE] at ah;obtain ⟨_,ew,c,el,bN,e,_,ba,_⟩:=ah;rw [e] at av;cases av;exact (Array.getElem?_eq_some_iff.1 ba).1
 | iter st pos=>rw [aE] at ah;obtain ⟨ew,e,_,_,ba⟩:=ah;rw [e] at av;cases av;exact (Array.getElem?_eq_some_iff.1 ba).1
 | mp es clock=>rw [aE] at ah;obtain ⟨ew,a,e,_,ba,_⟩:=ah;rw [e] at av;cases av;exact (Array.getElem?_eq_some_iff.1 ba).1
 | cg l=>rw [aE] at ah;obtain ⟨ew,o,e,_,ba,_⟩:=ah;rw [e] at av;cases av;exact (Array.getElem?_eq_some_iff.1 ba).1
 | eD=>rw [aE] at ah;obtain ⟨ew,e,_,ba⟩:=ah;rw [e] at av;cases av;exact (Array.getElem?_eq_some_iff.1 ba).1
 | iW es=>rw [aE] at ah;obtain ⟨ew,a,c,l,e,_,ba,_⟩:=ah;rw [e] at av;cases av;exact (Array.getElem?_eq_some_iff.1 ba).1
 | iU src since seen last=>rw [aE] at ah;obtain ⟨ew,m,a,e,_,_,ba,_⟩:=ah;rw [e] at av;cases av;exact (Array.getElem?_eq_some_iff.1 ba).1
end Go.Proofs.YthemdhlheglhoaaGreatDoor.aY
namespace Go.Proofs.YthemdhlheglhoaaGreatDoor.aY
variable [Lay]
open Go Go.RowKit
noncomputable def uD (cs:T V) (off:Nat):Nat→Option (List (List UInt8))
 | 0=>some []
 | n+1=>(match T.get .bad (ai off) cs with
   | .str s=>(match uD cs (off+1) n with
     | some l=>some (s::l)
     | none=>none)
   | _=>none)
def Pq (r:List UInt8) (h:af):aU:=bif Nat.ble r.length 1000000 then .val (.str r) h else .fail
noncomputable def Bv (h:af) (b:aN) (off len:Nat) (sep:List UInt8):aU:=
 match h.get b with
 | .cells n cs _ _=>bif Nat.ble (off+len) n&&Nat.ble len 1000000 then (match uD cs off len with
   | some l=>Pq (Lib.join l sep) h
   | none=>.fail) else .fail
 | _=>.fail
noncomputable def GA:uX:=⟨fun args h=>match args with
 | [x,y]=>(match y with
   | .str sep=>(match x with
     | .cq=>.val (.str []) h
     | .slice b off len _=>Bv h b off len sep
     | .e8 b off len _=>Bv h b off len sep
     | _=>.fail)
   | _=>.fail)
 | _=>.fail⟩
structure C2 (P:Program) (f:FuncId):Prop where
 many:∀(xt o c:Nat) (xs:List ByteArray) (sep:ByteArray) (w:World),(∀(j:Nat) x,xs[j]? =some x→w.cell? ⟨xt,o+j,none⟩=some (.string x))→xt<w.heap.size→xs.length≤140737488355328→xs.length≤c→
  (Lib.join (xs.map (·.data.toList)) sep.data.toList).length≤140737488355328→
  Calls P f #[.slice (some ⟨xt,o,none⟩) xs.length c,.string sep] w fun e aj=>e=.returned (.string ⟨(Lib.join (xs.map (·.data.toList)) sep.data.toList).toArray⟩)∧Below w.heap.size w aj
 abU:∀(a:Option Addr) (c:Nat) (sep:ByteArray) (w:World),Calls P f #[.slice a 0 c,.string sep] w fun e aj=>e=.returned (.string ⟨#[]⟩)∧aj=w
theorem Pr {cs:T V}:∀{n off:Nat} {l:List (List UInt8)},uD cs off n=some l→l.length=n∧∀j s,l[j]? =some s→T.get .bad (ai (off+j)) cs=.str s
 | 0,off,l,h=>by
   simp only [uD,Option.some.injEq] at h
   subst h
   exact ⟨rfl,fun j s h=>by simp at h⟩
 | n+1,off,l,h=>by
   simp only [uD] at h
   split at h
   case h_2=>cases h
   rename_i s aO
   cases aG:uD cs (off+1) n with
   | none=>rw [aG] at h;cases h
   | some cE=>
     rw [aG] at h
     simp only [Option.some.injEq] at h
     subst h
     obtain ⟨g1,g2⟩:=Pr aG
     refine ⟨by simp [g1],fun j t ax=>?_⟩
     cases j with
     | zero=>
       simp only [List.getElem?_cons_zero,Option.some.injEq] at ax
       subst ax
       exact aO
     | succ j=>
       have:=g2 j t (by simpa using ax)
       rw [show off + (j+1)=off+1+j from by omega]
       exact this
theorem MA {P:Program} {f:FuncId} (K:C2 P f) {h ab:af} {b:aN} {off len:Nat} {sep:List UInt8} {v:V} (he:Bv h b off len sep=.val v ab) {aq:Fr} {E:Env} {w:World} (s:a1 aq E h w) {p:iJ} (ag:E b=some p) {c:Nat} (aD:len≤c):
 Calls P f #[.slice (some ⟨p.bc,p.base+off,none⟩) len c,.string ⟨⟨sep⟩⟩] w fun e aj=>∃an x,e=.returned x∧E.le an∧Rel an v x∧a1 aq an ab aj:=by
 unfold Bv at he
 split at he
 case h_2=>cases he
 rename_i n cs cP st jT
 obtain ⟨WK,he⟩:=jP he
 simp only [Bool.and_eq_true,Nat.ble_eq] at WK
 cases ao:uD cs off len with
 | none=>rw [ao] at he;cases he
 | some L=>
   rw [ao] at he
   simp only [Pq] at he
   obtain ⟨Xj,he⟩:=jP he
   rw [Nat.ble_eq] at Xj
   simp only [aU.val.injEq] at he
   obtain ⟨rfl,rfl⟩:=he
   obtain ⟨g1,g2⟩:=Pr ao
   have ah:=s.at ag
   rw [jT] at ah
   obtain ⟨_,p',JR,el,bN,aP,_,pO,_,_,_,xQ⟩:=ah
   rw [ag] at aP;cases aP
   have aW:=(Array.getElem?_eq_some_iff.1 pO).1
   have mv:(L.map fun x=>(⟨⟨x⟩⟩:ByteArray)).map (·.data.toList)=L:=by
    rw [List.map_map]
    exact (List.map_congr_left (fun _ _=>rfl)).trans (List.map_id L)
   have cells:∀(j:Nat) (x:ByteArray),(L.map fun x=>(⟨⟨x⟩⟩:ByteArray))[j]? =some x→w.cell? ⟨p.bc,p.base+off+j,none⟩=some (.string x):=by
    intro j x ak
    rw [List.getElem?_map] at ak
    cases eO:L[j]? with
    | none=>rw [eO] at ak;cases ak
    | some t=>
      rw [eO] at ak
      cases ak
      have bK:j<len:=by rw [←g1];exact (List.getElem?_eq_some_iff.1 eO).1
      have cc:p.base+off+j<JR.size:=by have:=xQ.1;omega
      have aG:=xQ.2 (off+j) JR[p.base+off+j] (by omega) (by rw [←Nat.add_assoc];exact Array.getElem?_eq_getElem cc)
      rw [g2 j t eO] at aG
      simp only [Rel] at aG
      simp only [World.cell?,pO]
      rw [←aG]
      exact Array.getElem?_eq_getElem cc
   have:=K.many p.bc (p.base+off) c (L.map fun x=>(⟨⟨x⟩⟩:ByteArray)) ⟨⟨sep⟩⟩ w cells aW (by rw [List.length_map];omega) (by rw [List.length_map];omega) (by rw [mv];show (Lib.join L sep).length≤_;omega)
   rw [mv,List.length_map,g1] at this
   refine this.mono fun e aj q=>?_
   exact ⟨E,_,q.1,fun _ _ q=>q,by simp only [Rel],s.below q.2⟩
theorem YN {P:Program} {f:FuncId} (K:C2 P f) {args:List V} {h ab:af} {v:V} (he:GA.run args h=.val v ab)
 (aq:Fr) (E:Env) (w:World) (xs:List Value) (ak:a8 E args xs) (s:a1 aq E h w):
 Calls P f xs.toArray w fun e aj=>∃an x,e=.returned x∧E.le an∧Rel an v x∧a1 aq an ab aj:=by
 simp only [GA] at he
 split at he
 case h_2=>cases he
 rename_i x y
 split at he
 case h_2=>cases he
 rename_i sep
 obtain ⟨X,_,rfl,au,Y,_,rfl,az,rfl⟩:=ak
 simp only [Rel] at az
 subst az
 cases x<;>simp only at he<;>first
  | (cases he;done)
  | skip
 · simp only [Rel] at au
   obtain ⟨p,ag,aD,rfl⟩:=au
   exact MA K he s ag aD
 · simp only [Rel] at au
   obtain ⟨p,ag,aD,rfl⟩:=au
   exact MA K he s ag (by omega)
 · simp only [aU.val.injEq] at he
   obtain ⟨rfl,rfl⟩:=he
   simp only [Rel] at au
   subst au
   refine (K.abU none 0 ⟨⟨sep⟩⟩ w).mono fun e aj q=>?_
   obtain ⟨au,rfl⟩:=q
   exact ⟨E,_,au,fun _ _ q=>q,by simp only [Rel],s⟩
end Go.Proofs.YthemdhlheglhoaaGreatDoor.aY
namespace Go.Proofs.YthemdhlheglhoaaGreatDoor.aY
variable [Lay]
open Go Go.RowKit Go.Maps Go.Sort Go.Shelf
theorem aaV (a b:Int):Int.leB a b=decide (a≤b):=n2 a b
theorem U4 (a b:Int):Int.gr a b=decide (a=b):=by rw [k0];rfl
variable (k:IntKind) (a b:Int)
def wc (x:Int):List Int→List Int
 | []=>[x]
 | y::l=>bif Int.leB x y then x::y::l else y::wc x l
def uA:List Int→List Int
 | []=>[]
 | x::l=>wc x (uA l)
theorem Gv (x:Int):∀l,(wc x l).Perm (x::l)
 | []=>List.Perm.refl _
 | y::l=>by
   simp only [wc]
   cases Int.leB x y with
   | true=>exact List.Perm.refl _
   | false=>exact ((Gv x l).cons y).trans (List.Perm.swap x y l)
theorem H5:∀l,(uA l).Perm l
 | []=>List.Perm.refl _
 | x::l=>(Gv x _).trans ((H5 l).cons x)
theorem Ms (x:Int):∀l:List Int,l.Pairwise (·≤·)→(wc x l).Pairwise (·≤·)
 | [],_=>List.pairwise_singleton _ _
 | y::l,h=>by
   simp only [wc,aaV]
   by_cases v_:x≤y
   · rw [decide_eq_true v_]
     refine List.pairwise_cons.2 ⟨fun z bs=>?_,h⟩
     rcases List.mem_cons.1 bs with rfl | bs
     · exact v_
     · exact Int.le_trans v_ ((List.pairwise_cons.1 h).1 z bs)
   · rw [decide_eq_false v_]
     refine List.pairwise_cons.2 ⟨fun z bs=>?_,Ms x l (List.pairwise_cons.1 h).2⟩
     rcases List.mem_cons.1 ((Gv x l).mem_iff.1 bs) with rfl | bs
     · omega
     · exact (List.pairwise_cons.1 h).1 z bs
theorem Pf:∀l,(uA l).Pairwise (·≤·)
 | []=>.nil
 | x::l=>Ms x _ (Pf l)
theorem aeb {l m:List Int} (h:m.Perm l):m.mergeSort (fun x y=>decide (x≤y))=uA l:=by
 have ag:(m.mergeSort (fun x y=>decide (x≤y))).Perm (uA l):=((List.mergeSort_perm m _).trans h).trans (H5 l).symm
 have aO:(m.mergeSort (fun x y=>decide (x≤y))).Pairwise (·≤·):=by
  have:=List.pairwise_mergeSort (le:=fun x y:Int=>decide (x≤y)) (fun a b c aa ae=>by simp only [decide_eq_true_eq] at *;omega) (fun a b=>by simp only [Bool.or_eq_true,decide_eq_true_eq];omega) m
  exact this.imp (fun h=>by simpa using h)
 exact ag.eq_of_pairwise (fun a b _ _ aa ae=>Int.le_antisymm aa ae) aO (Pf l)
def o1:List cH→Option (List Int)
 | []=>some []
 | m::ms=>match m.k with
   | .int .i64 n=>(match o1 ms with
     | some l=>some (n::l)
     | none=>none)
   | _=>none
def BI (x:Int):List Int→Bool
 | []=>false
 | y::l=>Int.gr x y||BI x l
def yK:List Int→Bool
 | []=>true
 | x::l=>!BI x l&&yK l
def zl:List Int→Bool
 | []=>true
 | x::l=>(Lit.int .i64 x).wf&&zl l
def Br (l:List Int):List V:=l.map (V.int .i64)
noncomputable def Ph (g:FuncId) (xp:aN) (h:af):aU:=
 match h.get xp with
 | .cells n cs 0 _=>bif Nat.blt 0 n then (match T.get .bad (ai 0) cs with
   | .map b=>(match h.get b with
     | .mp es clock=>(match o1 es with
       | some aK=>bif yK aK&&nH clock 0 es&&zl aK&&Nat.ble es.length 1000000 then (match uA aK with
          | []=>.val .cq h
          | x::l=>(match jz h (Br (x::l)) 1 false with
            | some ab=>.val (.e8 (ai h.next) 0 (x::l).length 0) ab
            | none=>.fail)) else .fail
       | none=>.fail)
     | _=>.fail)
   | _=>.fail) else .fail
 | _=>.fail
noncomputable def H6 (g:FuncId):uX:=
 ⟨fun args h=>match args with
   | [.func f [.ptr xp 0]]=>bif Nat.beq f g then Ph g xp h else .fail
   | _=>.fail⟩
theorem ME:∀{es:List cH} {aK:List Int},o1 es=some aK→aK.length=es.length
 | [],aK,h=>by simp only [o1,Option.some.injEq] at h;subst h;rfl
 | m::ms,aK,h=>by
   unfold o1 at h
   split at h
   · cases av:o1 ms with
     | none=>rw [av] at h;cases h
     | some l=>
       rw [av] at h
       simp only [Option.some.injEq] at h
       subst h
       simp [ME av]
   · cases h
theorem MF {E:Env}:∀{es:List cH} {aK:List Int} {l:List MapEntry},o1 es=some aK→ek E es l→l.map (·.key)=aK.map (Value.int .i64)∧l.map (·.born)=es.map (·.born)
 | [],aK,l,h,aG=>by
   simp only [o1,Option.some.injEq] at h
   simp only [ek] at aG
   subst h aG
   exact ⟨rfl,rfl⟩
 | m::ms,aK,l,h,aG=>by
   simp only [ek] at aG
   obtain ⟨e,jn,rfl,aa,ae,aH,bf⟩:=aG
   unfold o1 at h
   split at h
   · rename_i n ay
     cases av:o1 ms with
     | none=>rw [av] at h;cases h
     | some l=>
       rw [av] at h
       simp only [Option.some.injEq] at h
       subst h
       obtain ⟨g1,g2⟩:=MF av bf
       rw [ay] at aa
       simp only [Rel] at aa
       simp only [List.map_cons,g1,g2,aa,aH,and_self]
   · cases h
theorem Nh {x:Int}:∀{l:List Int},BI x l=false→x ∉ l
 | [],_=>by simp
 | y::l,h=>by
   simp only [BI,Bool.or_eq_false_iff] at h
   have aa:¬x=y:=by
    intro q
    have:=h.1
    rw [U4,decide_eq_false_iff_not] at this
    exact this q
   rw [List.mem_cons]
   rintro (q | q)
   · exact aa q
   · exact Nh h.2 q
theorem Ns:∀{l:List Int},yK l=true→l.Nodup
 | [],_=>List.nodup_nil
 | x::l,h=>by
   simp only [yK,Bool.and_eq_true,Bool.not_eq_true'] at h
   exact List.nodup_cons.2 ⟨Nh h.1,Ns h.2⟩
theorem P2:∀{l:List Int},zl l=true→∀x ∈ l,(Lit.int .i64 x).wf=true
 | [],_,x,ak=>by cases ak
 | y::l,h,x,ak=>by
   simp only [zl,Bool.and_eq_true] at h
   rcases List.mem_cons.1 ak with rfl | ak
   · exact h.1
   · exact P2 h.2 x ak
theorem abR {l:List Int} (h:l.Nodup):(l.map (Value.int .i64)).Nodup:=by
 induction l with
 | nil=>exact List.nodup_nil
 | cons x l bj=>
   obtain ⟨aa,ae⟩:=List.nodup_cons.1 h
   rw [List.map_cons]
   refine List.nodup_cons.2 ⟨fun q=>?_,bj ae⟩
   obtain ⟨y,a7,e⟩:=List.mem_map.1 q
   cases e
   exact aa a7
def I9 (P:Program) (f g:FuncId) (cd:TypeId):Prop:=
 ∀(sN b G5:Nat) (rz:DataW Unit) (R:Value→Option (DataW Unit × List MemPlace)) (w:World),sN<w.heap.size→w.cell? ⟨sN,0,none⟩=some (.map (some b))→w.ownsMap P cd R b G5 rz→Maps.size rz≤maxLen→Maps.size rz * 8≤140737488355328→
  Calls P f #[.func (.func g) #[] #[.pointer (some ⟨sN,0,none⟩)]] w fun e aj=>∃(v:Value) (fp:List Int),e=.returned v∧fp.Perm (intKeys rz)∧
   aj.ownsRow w.heap.size cd 1 v fp.length ((fp.mergeSort (fun x y=>decide (x≤y))).map encZ)∧(v=.slice none 0 0↔fp=[])∧Below w.heap.size w aj
theorem Mu (E:Env):∀l:List Int,a8 E (Br l) (l.map encZ)
 | []=>rfl
 | x::l=>by
   simp only [Br,List.map_cons,a8]
   exact ⟨_,_,rfl,by simp only [Rel],Mu E l⟩
theorem aee {P:Program} {f g:FuncId} {cd:TypeId} (A2:g≠da) (nf:P.underlying cd=some (.int .i64)) (C:I9 P f g cd) {args:List V} {h ab:af} {v:V} (he:(H6 g).run args h=.val v ab)
 (aq:Fr) (E:Env) (w:World) (xs:List Value) (ak:a8 E args xs) (s:a1 aq E h w):
 Calls P f xs.toArray w fun e aj=>∃an x,e=.returned x∧E.le an∧Rel an v x∧a1 aq an ab aj:=by
 match args,he,ak with
 | [.func vh [.ptr xp 0]],he,ak=>
   simp only [H6] at he
   cases Fv:Nat.beq vh g with
   | false=>rw [Fv] at he;cases he
   | true=>
     rw [Fv] at he
     simp only [cond_true] at he
     have W6:vh=g:=Nat.eq_of_beq_eq_true Fv
     subst W6
     simp only [a8] at ak
     obtain ⟨y,_,rfl,a7,rfl⟩:=ak
     simp only [Rel] at a7
     obtain ⟨_,a,rfl,q,_,bd,av,rfl⟩ | ⟨Yl,_⟩:=a7
     rotate_left
     · exact absurd Yl A2
     obtain ⟨p,ag,rfl⟩:=av
     have Ww:a=#[.pointer (some ⟨p.bc,p.base+0,none⟩)]:=by
      rw [←Array.toList_inj,bd]
     subst Ww
     unfold Ph at he
     split at he
     · rename_i n cs st h3
       have nb:=s.base xp p n cs st h3 ag
       have jT:=s.at ag
       rw [h3] at jT
       obtain ⟨_,p',c,el,bN,aP,_,pO,_,_,_,xQ⟩:=jT
       rw [ag] at aP;cases aP
       cases aS:Nat.blt 0 n with
       | false=>rw [aS] at he;cases he
       | true=>
         rw [aS] at he
         simp only [cond_true] at he
         rw [Nat.blt_eq] at aS
         split at he
         · rename_i b mv
           have AV:0<c.size:=by have:=xQ.1;omega
           have jX:=xQ.2 0 c[0] aS (by rw [nb];exact Array.getElem?_eq_getElem AV)
           rw [mv] at jX
           simp only [Rel] at jX
           obtain ⟨wD,LO,tv⟩:=jX
           split at he
           · rename_i es clock nO
             have LG:=s.at LO
             rw [nO] at LG
             obtain ⟨agR,am,bl,_,Xx,pR⟩:=LG
             rw [LO] at bl;cases bl
             cases pQ:o1 es with
             | none=>rw [pQ] at he;cases he
             | some aK=>
               rw [pQ] at he
               simp only at he
               cases A1:(yK aK&&nH clock 0 es&&zl aK&&Nat.ble es.length 1000000) with
               | false=>rw [A1] at he;cases he
               | true=>
                 rw [A1] at he
                 simp only [cond_true] at he
                 simp only [Bool.and_eq_true,Nat.ble_eq] at A1
                 obtain ⟨⟨⟨g1,g2⟩,g3⟩,g4⟩:=A1
                 obtain ⟨bX,b'⟩:=MF pQ pR
                 have FH:=ME pQ
                 have Lg:am.size=aK.length:=by
                  have:=congrArg List.length bX
                  simpa using this
                 obtain ⟨cx,cn⟩:=JA g2
                 have vI:maxLen=9223372036854775807:=by decide
                 have X5:MapKept.Stamped am clock:=by
                  refine ⟨fun x ak=>?_,by rw [b'];exact cn,by rw [bX];exact abR (Ns g1)⟩
                  have:x.born ∈ es.map (·.born):=by rw [←b'];exact List.mem_map_of_mem ak
                  exact (cx _ this).2
                 have Xk:∀x ∈ am.toList,∃n ∈ aK,x.key=.int .i64 n:=by
                  intro x ak
                  have:x.key ∈ am.toList.map (·.key):=List.mem_map_of_mem ak
                  rw [bX] at this
                  obtain ⟨n,aS,e⟩:=List.mem_map.1 this
                  exact ⟨n,aS,e.symm⟩
                 have Bb:∀x ∈ am.toList,∃n,x.key=.int .i64 n∧WideElems.rd P cd (fun _=>some ((.nil:DataW Unit),[])) x=some (.int .i64 n,.nil):=by
                  intro x ak
                  obtain ⟨n,aS,e⟩:=Xk x ak
                  refine ⟨n,e,?_⟩
                  unfold WideElems.rd
                  rw [e,Maps.keyOf_int_mk nf (P2 g3 n aS)]
                  rfl
                 have W7:WideElems.Fit P cd (fun _=>some ((.nil:DataW Unit),[])) am clock:=⟨by rw [Lg,FH,vI];omega,X5,fun x ak=>by obtain ⟨n,_,e⟩:=Bb x ak;exact ⟨_,e⟩⟩
                 have ho:w.ownsMap P cd (fun _=>some ((.nil:DataW Unit),[])) wD.bc am.size (.map ((am.toList.map (WideElems.rg P cd (fun _=>some ((.nil:DataW Unit),[])))).foldr DataW.insert [])):=⟨am,clock,Xx,W7,Nat.le_refl _,rfl⟩
                 have Xl:(am.toList.map (WideElems.rg P cd (fun _=>some ((.nil:DataW Unit),[])))).map (fun p=>intOf p.1)=aK:=by
                  have bs:∀(l:List MapEntry) (jg:List Int),(∀x ∈ l,∃n,x.key=.int .i64 n∧WideElems.rd P cd (fun _=>some ((.nil:DataW Unit),[])) x=some (.int .i64 n,.nil))→l.map (·.key)=jg.map (Value.int .i64)→(l.map (WideElems.rg P cd (fun _=>some ((.nil:DataW Unit),[])))).map (fun p=>intOf p.1)=jg:=by
                   intro l
                   induction l with
                   | nil=>
                     intro jg _ e
                     cases jg with
                     | nil=>rfl
                     | cons z jg=>simp at e
                   | cons x l bj=>
                     intro jg ev e
                     cases jg with
                     | nil=>simp at e
                     | cons z jg=>
                       simp only [List.map_cons,List.cons.injEq] at e
                       obtain ⟨n,aP,bl⟩:=ev x (List.mem_cons_self ..)
                       have Yn:z=n:=by
                        have:=e.1.symm.trans aP
                        injection this
                       rw [List.map_cons,List.map_cons,bj jg (fun y a7=>ev y (List.mem_cons_of_mem _ a7)) e.2]
                       unfold WideElems.rg
                       rw [bl,Yn]
                       rfl
                  exact bs am.toList aK Bb bX
                 have tq:(intKeys (.map ((am.toList.map (WideElems.rg P cd (fun _=>some ((.nil:DataW Unit),[])))).foldr DataW.insert []):DataW Unit)).Perm aK:=by
                  have:=(WideShapes.sorted_perm (am.toList.map (WideElems.rg P cd (fun _=>some ((.nil:DataW Unit),[]))))).map (fun p=>intOf p.1)
                  rw [Xl] at this
                  exact this
                 have cc:Maps.size (.map ((am.toList.map (WideElems.rg P cd (fun _=>some ((.nil:DataW Unit),[])))).foldr DataW.insert []):DataW Unit)=aK.length:=by
                  rw [Maps.size_eq,length_sorted,List.length_map,Array.length_toList,Lg]
                 have aW:=(Array.getElem?_eq_some_iff.1 pO).1
                 have WM:w.cell? ⟨p.bc,0,none⟩=some (.map (some wD.bc)):=by
                  simp only [World.cell?,pO]
                  rw [←tv]
                  exact Array.getElem?_eq_getElem AV
                 have call:=C p.bc wD.bc am.size _ _ w aW WM ho (by rw [cc,FH,vI];omega) (by rw [cc,FH];omega)
                 rw [show p.base+0=0 from by rw [nb]]
                 refine call.mono fun e aj q=>?_
                 obtain ⟨v0,fp,rfl,au,az,aM,bU⟩:=q
                 have gF:fp.Perm aK:=au.trans tq
                 rw [aeb gF] at az
                 have ya:fp.length=(uA aK).length:=by rw [gF.length_eq,(H5 aK).length_eq]
                 split at he
                 · rename_i Bd
                   have:fp=[]:=by
                    rw [Bd] at ya
                    exact List.eq_nil_of_length_eq_zero ya
                   cases he
                   rw [aM.2 this]
                   exact ⟨E,_,rfl,fun _ _ q=>q,by simp only [Rel],s.below bU⟩
                 · rename_i x l hO
                   rw [hO] at ya az
                   cases tD:jz h (Br (x::l)) 1 false with
                   | none=>rw [tD] at he;cases he
                   | some aa=>
                     rw [tD] at he
                     simp only [aU.val.injEq] at he
                     obtain ⟨rfl,rfl⟩:=he
                     obtain ⟨bS,b7⟩:=az
                     rcases b7 with ⟨_,b7⟩ | ⟨xI,cap,cur,rfl,b7,cT,fB,hd,ez,jD⟩
                     · rw [ya] at b7;cases b7
                     · unfold jz at tD
                       obtain ⟨aD,tD⟩:=en tD
                       simp only [Bool.and_eq_true,Nat.ble_eq] at aD
                       simp only [Option.some.injEq] at tD
                       subst tD
                       have dN:E.put (ai h.next) ⟨xI,0,cap⟩ (ai h.next)=some ⟨xI,0,cap⟩:=by unfold Env.put;rw [if_pos rfl]
                       have hle:E.le (E.put (ai h.next) ⟨xI,0,cap⟩):=Env.lk (s.fresh h.next (Nat.le_refl _))
                       refine ⟨_,_,rfl,hle,?_,s.add (p:=⟨xI,0,cap⟩) bU.size (fun j bK _=>bU.block j bK) (Nat.le_trans s.frame.size b7) (fun bH ew hn oV eE=>?_) bU.os bU.tape bU.output (fun _ _ _ e=>by injection e with _ _ bW;omega) ?_⟩
                       · simp only [Rel]
                         exact ⟨_,dN,by simp only [Nat.zero_add];omega,by simp only [Nat.add_zero,Nat.sub_zero,ya]⟩
                       · have:=acD s hn oV
                         simp only at eE
                         omega
                       · have h4:=AH (a8.mono hle _ _ (Mu E (x::l))) aD.1 (cur.toList.drop (fp.length * 1)).toArray
                         have WS:((x::l).map encZ).toArray++(cur.toList.drop (fp.length * 1)).toArray=cur:=by
                          rw [←jD,←Array.toList_inj]
                          simp
                         rw [WS] at h4
                         exact ⟨aD.1,⟨xI,0,cap⟩,cur,cd,(0,0),dN,Nat.le_trans s.frame.size b7,cT,.inr (Nat.le_refl _),fun _=>rfl,fun _=>by simp only;omega,h4⟩
           · cases he
         · cases he
     · cases he
end Go.Proofs.YthemdhlheglhoaaGreatDoor.aY
