/- The abstract machine and its walks (a verified interpreter of the model's code: plain definitions and lemmas, no condition). Printed by a program from longer texts: names made short. -/
import Derived.Test.YthemdhlheglhoaaGreatDoorM4
import Derived.Shelf.SlIter.Sorted
import Derived.Shelf.SlIter.Nil
import Derived.StringKeys
import Derived.WideShapes
import Derived.Lib.ItoaNum
import Derived.Lib.Join
import Derived.Shelf.SlIterI.Sorted
import Derived.Shelf.SlIterI.Nil
set_option linter.unusedSectionVars false
set_option linter.unusedSimpArgs false
set_option linter.unusedVariables false
set_option maxHeartbeats 64000000
noncomputable section
namespace Go.Proofs.YthemdhlheglhoaaGreatDoor.a7
section
open Go Go.RowKit
variable [Lay]
end
section
open Go Go.RowKit Go.Maps Go.Sort Go.Shelf
open Go.Proofs (encStr)
variable [Lay]
def h2 (clock:Nat):Nat->List cL->Bool
 | _,[]=>true
 | bB,m::ms=>Nat.ble bB m.born&&Nat.blt m.born clock&&h2 clock (m.born+1) ms
theorem Pw {clock:Nat}:∀{bB:Nat} {es:List cL},h2 clock bB es=true->(∀n ∈ es.map (·.born),bB<=n/\n<clock)/\(es.map (·.born)).Nodup
 | bB,[],_=>⟨by simp,by simp⟩
 | bB,m::ms,h=>by
   simp only [h2,Bool.and_eq_true,Nat.ble_eq,Nat.blt_eq] at h;obtain ⟨g1,g2⟩:=Pw h.2;refine ⟨fun n aV=>?_,?_⟩
   . rw [List.map_cons] at aV;rcases List.mem_cons.1 aV with rfl | aV
     . exact h.1
     . have:=g1 n aV;omega
   . rw [List.map_cons];refine List.nodup_cons.2 ⟨fun q=>?_,g2⟩;have:=g1 _ q;omega
theorem alD {az:Fr} {E:Env} {h:ai} {w:World} (s:bf az E h w) {b:aQ} {q:jN} (a6:(h.get b).own=true) (aC:E b=some q):q.aM<w.heap.size:=by
 have ae:=s.at aC;cases aB:h.get b with
 | dead=>rw [aB] at a6;cases a6
 | view n cs=>rw [aB] at a6;cases a6
 | cells n cs cE st=>rw [aB] at ae;obtain ⟨_,ec,c,el,b4,e,_,bl,_⟩:=ae;rw [e] at aC;cases aC;exact (Array.getElem?_eq_some_iff.1 bl).1
 | iter st pos=>rw [aB] at ae;obtain ⟨ec,e,_,_,bl⟩:=ae;rw [e] at aC;cases aC;exact (Array.getElem?_eq_some_iff.1 bl).1
 | mp es clock=>rw [aB] at ae;obtain ⟨ec,a,e,_,bl,_⟩:=ae;rw [e] at aC;cases aC;exact (Array.getElem?_eq_some_iff.1 bl).1
 | dF l=>rw [aB] at ae;obtain ⟨ec,o,e,_,bl,_⟩:=ae;rw [e] at aC;cases aC;exact (Array.getElem?_eq_some_iff.1 bl).1
 | gd=>rw [aB] at ae;obtain ⟨ec,e,_,bl⟩:=ae;rw [e] at aC;cases aC;exact (Array.getElem?_eq_some_iff.1 bl).1
 | j4 es=>rw [aB] at ae;obtain ⟨ec,a,c,l,e,_,bl,_⟩:=ae;rw [e] at aC;cases aC;exact (Array.getElem?_eq_some_iff.1 bl).1
 | j3 src since seen last=>rw [aB] at ae;obtain ⟨ec,m,a,e,_,_,bl,_⟩:=ae;rw [e] at aC;cases aC;exact (Array.getElem?_eq_some_iff.1 bl).1
end
section
open Go Go.RowKit
variable [Lay]
def xy (cs:T V) (off:Nat):Nat->Option (List (List UInt8))
 | 0=>some []
 | n+1=>(match T.get .bad (aj off) cs with
   | .str s=>(match xy cs (off+1) n with
     | some l=>some (s::l)
     | none=>none)
   | _=>none)
def Xd (r:List UInt8) (h:ai):a8:=bif Nat.ble r.length 1000000 then .val (.str r) h else .fail
def FW (h:ai) (b:aQ) (off len:Nat) (sep:List UInt8):a8:=
 match h.get b with
 | .cells n cs _ _=>bif Nat.ble (off+len) n&&Nat.ble len 1000000 then (match xy cs off len with
   | some l=>Xd (Lib.join l sep) h
   | none=>.fail) else .fail
 | _=>.fail
def Lk:x1:=⟨fun args h=>match args with
 | [x,y]=>(match y with
   | .str sep=>(match x with
     | .bF=>.val (.str []) h
     | .slice b off len _=>FW h b off len sep
     | .dY b off len _=>FW h b off len sep
     | _=>.fail)
   | _=>.fail)
 | _=>.fail⟩
structure HS (P:Program) (f:FuncId):Prop where
 many:∀(vF o c:Nat) (xs:List ByteArray) (sep:ByteArray) (w:World),(∀(j:Nat) x,xs[j]? =some x->w.cell? ⟨vF,o+j,none⟩=some (.string x))->vF<w.heap.size->xs.length<=140737488355328->xs.length<=c->
  (Lib.join (xs.map (·.data.toList)) sep.data.toList).length<=140737488355328->
  Calls P f #[.slice (some ⟨vF,o,none⟩) xs.length c,.string sep] w fun e ao=>e=.returned (.string ⟨(Lib.join (xs.map (·.data.toList)) sep.data.toList).toArray⟩)/\Below w.heap.size w ao
 akS:∀(a:Option Addr) (c:Nat) (sep:ByteArray) (w:World),Calls P f #[.slice a 0 c,.string sep] w fun e ao=>e=.returned (.string ⟨#[]⟩)/\ao=w
theorem Xe {cs:T V}:∀{n off:Nat} {l:List (List UInt8)},xy cs off n=some l->l.length=n/\∀j s,l[j]? =some s->T.get .bad (aj (off+j)) cs=.str s
 | 0,off,l,h=>by simp only [xy,Option.some.injEq] at h;subst h;exact ⟨rfl,fun j s h=>by simp at h⟩
 | n+1,off,l,h=>by
   simp only [xy] at h
   split at h
   case h_2=>cases h
   rename_i s aR;cases aF:xy cs (off+1) n with
   | none=>rw [aF] at h;cases h
   | some dT=>
     rw [aF] at h;simp only [Option.some.injEq] at h;subst h;obtain ⟨g1,g2⟩:=Xe aF;refine ⟨by simp [g1],fun j t aw=>?_⟩;cases j with
     | zero=>
       simp only [List.getElem?_cons_zero,Option.some.injEq] at aw;subst aw;exact aR
     | succ j=>
       have:=g2 j t (by simpa using aw);rw [show off + (j+1)=off+1+j from by omega];exact this
theorem TX {P:Program} {f:FuncId} (K:HS P f) {h ab:ai} {b:aQ} {off len:Nat} {sep:List UInt8} {v:V} (he:FW h b off len sep=.val v ab) {az:Fr} {E:Env} {w:World} (s:bf az E h w) {p:jN} (ag:E b=some p) {c:Nat} (aD:len<=c):
 Calls P f #[.slice (some ⟨p.aM,p.base+off,none⟩) len c,.string ⟨⟨sep⟩⟩] w fun e ao=>∃ax x,e=.returned x/\E.le ax/\Rel ax v x/\bf az ax ab ao:=by
 unfold FW at he
 split at he
 case h_2=>cases he
 rename_i n cs cE st kC;obtain ⟨aeJ,he⟩:=jR he;simp only [Bool.and_eq_true,Nat.ble_eq] at aeJ;cases ay:xy cs off len with
 | none=>rw [ay] at he;cases he
 | some L=>
   rw [ay] at he;simp only [Xd] at he;obtain ⟨afm,he⟩:=jR he;rw [Nat.ble_eq] at afm;simp only [a8.val.injEq] at he;obtain ⟨rfl,rfl⟩:=he;obtain ⟨g1,g2⟩:=Xe ay;have ae:=s.at ag;rw [kC] at ae;obtain ⟨_,p',Q2,el,b4,aP,_,q',_,_,_,Bu⟩:=ae;rw [ag] at aP;cases aP;have aO:=(Array.getElem?_eq_some_iff.1 q').1;have nt:(L.map fun x=>(⟨⟨x⟩⟩:ByteArray)).map (·.data.toList)=L:=by rw [List.map_map];exact (List.map_congr_left (fun _ _=>rfl)).trans (List.map_id L)
   have cells:∀(j:Nat) (x:ByteArray),(L.map fun x=>(⟨⟨x⟩⟩:ByteArray))[j]? =some x->w.cell? ⟨p.aM,p.base+off+j,none⟩=some (.string x):=by
    intro j x ak;rw [List.getElem?_map] at ak;cases eO:L[j]? with
    | none=>rw [eO] at ak;cases ak
    | some t=>
      rw [eO] at ak;cases ak;have aU:j<len:=by rw [<-g1];exact (List.getElem?_eq_some_iff.1 eO).1
      have cr:p.base+off+j<Q2.size:=by have:=Bu.1;omega
      have aF:=Bu.2 (off+j) Q2[p.base+off+j] (by omega) (by rw [<-Nat.add_assoc];exact Array.getElem?_eq_getElem cr);rw [g2 j t eO] at aF;simp only [Rel] at aF;simp only [World.cell?,q'];rw [<-aF];exact Array.getElem?_eq_getElem cr
   have:=K.many p.aM (p.base+off) c (L.map fun x=>(⟨⟨x⟩⟩:ByteArray)) ⟨⟨sep⟩⟩ w cells aO (by rw [List.length_map];omega) (by rw [List.length_map];omega) (by rw [nt];show (Lib.join L sep).length<=_;omega);rw [nt,List.length_map,g1] at this;refine this.mono fun e ao q=>?_;exact ⟨E,_,q.1,fun _ _ q=>q,by simp only [Rel],s.below q.2⟩
theorem ag7 {P:Program} {f:FuncId} (K:HS P f) {args:List V} {h ab:ai} {v:V} (he:Lk.run args h=.val v ab)
 (az:Fr) (E:Env) (w:World) (xs:List Value) (ak:bk E args xs) (s:bf az E h w):
 Calls P f xs.toArray w fun e ao=>∃ax x,e=.returned x/\E.le ax/\Rel ax v x/\bf az ax ab ao:=by
 simp only [Lk] at he
 split at he
 case h_2=>cases he
 rename_i x y
 split at he
 case h_2=>cases he
 rename_i sep;obtain ⟨X,_,rfl,ar,Y,_,rfl,av,rfl⟩:=ak;simp only [Rel] at av;subst av;cases x<;>simp only at he<;>first
  | (cases he;done)
  | skip
 . simp only [Rel] at ar;obtain ⟨p,ag,aD,rfl⟩:=ar;exact TX K he s ag aD
 . simp only [Rel] at ar;obtain ⟨p,ag,aD,rfl⟩:=ar;exact TX K he s ag (by omega)
 . simp only [a8.val.injEq] at he;obtain ⟨rfl,rfl⟩:=he;simp only [Rel] at ar;subst ar;refine (K.akS none 0 ⟨⟨sep⟩⟩ w).mono fun e ao q=>?_;obtain ⟨ar,rfl⟩:=q;exact ⟨E,_,ar,fun _ _ q=>q,by simp only [Rel],s⟩
end
section
open Go Go.RowKit Go.Maps Go.Sort Go.Shelf
variable [Lay]
theorem ajM (a b:Int):Int.leB a b=decide (a<=b):=oC a b
theorem ac0 (a b:Int):Int.gS a b=decide (a=b):=by rw [ln];rfl
variable (k:IntKind) (a b:Int)
def zh (x:Int):List Int->List Int
 | []=>[x]
 | y::l=>bif Int.leB x y then x::y::l else y::zh x l
def e6:List Int->List Int
 | []=>[]
 | x::l=>zh x (e6 l)
theorem Lg (x:Int):∀l,(zh x l).Perm (x::l)
 | []=>List.Perm.refl _
 | y::l=>by
   simp only [zh];cases Int.leB x y with
   | true=>exact List.Perm.refl _
   | false=>exact ((Lg x l).cons y).trans (List.Perm.swap x y l)
theorem uY:∀l,(e6 l).Perm l
 | []=>List.Perm.refl _
 | x::l=>(Lg x _).trans ((uY l).cons x)
theorem TO (x:Int):∀l:List Int,l.Pairwise (·<=·)->(zh x l).Pairwise (·<=·)
 | [],_=>List.pairwise_singleton _ _
 | y::l,h=>by
   simp only [zh,ajM];by_cases zf:x<=y
   . rw [decide_eq_true zf];refine List.pairwise_cons.2 ⟨fun z bn=>?_,h⟩;rcases List.mem_cons.1 bn with rfl | bn
     . exact zf
     . exact Int.le_trans zf ((List.pairwise_cons.1 h).1 z bn)
   . rw [decide_eq_false zf];refine List.pairwise_cons.2 ⟨fun z bn=>?_,TO x l (List.pairwise_cons.1 h).2⟩;rcases List.mem_cons.1 ((Lg x l).mem_iff.1 bn) with rfl | bn
     . omega
     . exact (List.pairwise_cons.1 h).1 z bn
theorem MY:∀l,(e6 l).Pairwise (·<=·)
 | []=>.nil
 | x::l=>TO x _ (MY l)
theorem ann {l m:List Int} (h:m.Perm l):m.mergeSort (fun x y=>decide (x<=y))=e6 l:=by
 have ag:(m.mergeSort (fun x y=>decide (x<=y))).Perm (e6 l):=((List.mergeSort_perm m _).trans h).trans (uY l).symm;have aR:(m.mergeSort (fun x y=>decide (x<=y))).Pairwise (·<=·):=by have:=List.pairwise_mergeSort (le:=fun x y:Int=>decide (x<=y)) (fun a b c aa ad=>by simp only [decide_eq_true_eq] at *;omega) (fun a b=>by simp only [Bool.or_eq_true,decide_eq_true_eq];omega) m;exact this.imp (fun h=>by simpa using h)
 exact ag.eq_of_pairwise (fun a b _ _ aa ad=>Int.le_antisymm aa ad) aR (MY l)
def oy:List cL->Option (List Int)
 | []=>some []
 | m::ms=>match m.k with
   | .int .i64 n=>(match oy ms with
     | some l=>some (n::l)
     | none=>none)
   | _=>none
def w7 (x:Int):List Int->Bool
 | []=>false
 | y::l=>Int.gS x y||w7 x l
def uF:List Int->Bool
 | []=>true
 | x::l=>!w7 x l&&uF l
def u5:List Int->Bool
 | []=>true
 | x::l=>(Lit.int .i64 x).wf&&u5 l
def uu (l:List Int):List V:=l.map (V.int .i64)
def MZ (g:FuncId) (lO:aQ) (h:ai):a8:=
 match h.get lO with
 | .cells n cs 0 _=>bif Nat.blt 0 n then (match T.get .bad (aj 0) cs with
   | .map b=>(match h.get b with
     | .mp es clock=>(match oy es with
       | some aI=>bif uF aI&&h2 clock 0 es&&u5 aI&&Nat.ble es.length 1000000 then (match e6 aI with
          | []=>.val .bF h
          | x::l=>(match km h (uu (x::l)) 1 false with
            | some ab=>.val (.dY (aj h.next) 0 (x::l).length 0) ab
            | none=>.fail)) else .fail
       | none=>.fail)
     | _=>.fail)
   | _=>.fail) else .fail
 | _=>.fail
def C3 (g:FuncId):x1:=
 ⟨fun args h=>match args with
   | [.func f [.ptr lO 0]]=>bif Nat.beq f g then MZ g lO h else .fail
   | _=>.fail⟩
theorem Lq:∀{es:List cL} {aI:List Int},oy es=some aI->aI.length=es.length
 | [],aI,h=>by simp only [oy,Option.some.injEq] at h;subst h;rfl
 | m::ms,aI,h=>by
   unfold oy at h
   split at h
   . cases aC:oy ms with
     | none=>rw [aC] at h;cases h
     | some l=>
       rw [aC] at h;simp only [Option.some.injEq] at h;subst h;simp [Lq aC]
   . cases h
theorem T2 {E:Env}:∀{es:List cL} {aI:List Int} {l:List MapEntry},oy es=some aI->eH E es l->l.map (·.key)=aI.map (Value.int .i64)/\l.map (·.born)=es.map (·.born)
 | [],aI,l,h,aF=>by simp only [oy,Option.some.injEq] at h;simp only [eH] at aF;subst h aF;exact ⟨rfl,rfl⟩
 | m::ms,aI,l,h,aF=>by
   simp only [eH] at aF;obtain ⟨e,gy,rfl,aa,ad,aJ,bE⟩:=aF;unfold oy at h
   split at h
   . rename_i n aH;cases aC:oy ms with
     | none=>rw [aC] at h;cases h
     | some l=>
       rw [aC] at h;simp only [Option.some.injEq] at h;subst h;obtain ⟨g1,g2⟩:=T2 aC bE;rw [aH] at aa;simp only [Rel] at aa;simp only [List.map_cons,g1,g2,aa,aJ,and_self]
   . cases h
theorem UN {x:Int}:∀{l:List Int},w7 x l=false->x ∉ l
 | [],_=>by simp
 | y::l,h=>by
   simp only [w7,Bool.or_eq_false_iff] at h;have aa:¬x=y:=by intro q;have:=h.1;rw [ac0,decide_eq_false_iff_not] at this;exact this q
   rw [List.mem_cons];rintro (q | q)
   . exact aa q
   . exact UN h.2 q
theorem UZ:∀{l:List Int},uF l=true->l.Nodup
 | [],_=>List.nodup_nil
 | x::l,h=>by simp only [uF,Bool.and_eq_true,Bool.not_eq_true'] at h;exact List.nodup_cons.2 ⟨UN h.1,UZ h.2⟩
theorem XS:∀{l:List Int},u5 l=true->∀x ∈ l,(Lit.int .i64 x).wf=true
 | [],_,x,ak=>by cases ak
 | y::l,h,x,ak=>by
   simp only [u5,Bool.and_eq_true] at h;rcases List.mem_cons.1 ak with rfl | ak
   . exact h.1
   . exact XS h.2 x ak
theorem akQ {l:List Int} (h:l.Nodup):(l.map (Value.int .i64)).Nodup:=by
 induction l with
 | nil=>exact List.nodup_nil
 | cons x l br=>
   obtain ⟨aa,ad⟩:=List.nodup_cons.1 h;rw [List.map_cons];refine List.nodup_cons.2 ⟨fun q=>?_,br ad⟩;obtain ⟨y,aZ,e⟩:=List.mem_map.1 q;cases e;exact aa aZ
def OJ (P:Program) (f g:FuncId) (cG:TypeId):Prop:=
 ∀(vb b bN:Nat) (oQ:DataW Unit) (R:Value->Option (DataW Unit × List MemPlace)) (w:World),vb<w.heap.size->w.cell? ⟨vb,0,none⟩=some (.map (some b))->w.ownsMap P cG R b bN oQ->Maps.size oQ<=maxLen->Maps.size oQ * 8<=140737488355328->
  Calls P f #[.func (.func g) #[] #[.pointer (some ⟨vb,0,none⟩)]] w fun e ao=>∃(v:Value) (fV:List Int),e=.returned v/\fV.Perm (intKeys oQ)/\
   ao.ownsRow w.heap.size cG 1 v fV.length ((fV.mergeSort (fun x y=>decide (x<=y))).map encZ)/\(v=.slice none 0 0↔fV=[])/\Below w.heap.size w ao
theorem TR (E:Env):∀l:List Int,bk E (uu l) (l.map encZ)
 | []=>rfl
 | x::l=>by simp only [uu,List.map_cons,bk];exact ⟨_,_,rfl,by simp only [Rel],TR E l⟩
theorem W5 {P:Program} {f g:FuncId} {cG:TypeId} (Fg:g≠dC) (om:P.underlying cG=some (.int .i64)) (C:OJ P f g cG) {args:List V} {h ab:ai} {v:V} (he:(C3 g).run args h=.val v ab)
 (az:Fr) (E:Env) (w:World) (xs:List Value) (ak:bk E args xs) (s:bf az E h w):
 Calls P f xs.toArray w fun e ao=>∃ax x,e=.returned x/\E.le ax/\Rel ax v x/\bf az ax ab ao:=by
 match args,he,ak with
 | [.func kV [.ptr lO 0]],he,ak=>
   simp only [C3] at he;cases Kd:Nat.beq kV g with
   | false=>rw [Kd] at he;cases he
   | true=>
     rw [Kd] at he;simp only [cond_true] at he;have ae6:kV=g:=Nat.eq_of_beq_eq_true Kd;subst ae6;simp only [bk] at ak;obtain ⟨y,_,rfl,aZ,rfl⟩:=ak;simp only [Rel] at aZ;obtain ⟨_,a,rfl,q,_,a1,aC,rfl⟩ | ⟨agI,_⟩:=aZ
     rotate_left
     . exact absurd agI Fg
     obtain ⟨p,ag,rfl⟩:=aC;have aex:a=#[.pointer (some ⟨p.aM,p.base+0,none⟩)]:=by rw [<-Array.toList_inj,a1]
     subst aex;unfold MZ at he
     split at he
     . rename_i n cs st iO;have oh:=s.base lO p n cs st iO ag;have kC:=s.at ag;rw [iO] at kC;obtain ⟨_,p',c,el,b4,aP,_,q',_,_,_,Bu⟩:=kC;rw [ag] at aP;cases aP;cases aV:Nat.blt 0 n with
       | false=>rw [aV] at he;cases he
       | true=>
         rw [aV] at he;simp only [cond_true] at he;rw [Nat.blt_eq] at aV
         split at he
         . rename_i b nt;have yG:0<c.size:=by have:=Bu.1;omega
           have kH:=Bu.2 0 c[0] aV (by rw [oh];exact Array.getElem?_eq_getElem yG);rw [nt] at kH;simp only [Rel] at kH;obtain ⟨xg,S',wc⟩:=kH
           split at he
           . rename_i es clock o9;have oo:=s.at S';rw [o9] at oo;obtain ⟨aqV,am,a',_,afx,wB⟩:=oo;rw [S'] at a';cases a';cases f':oy es with
             | none=>rw [f'] at he;cases he
             | some aI=>
               rw [f'] at he;simp only at he;cases Ff:(uF aI&&h2 clock 0 es&&u5 aI&&Nat.ble es.length 1000000) with
               | false=>rw [Ff] at he;cases he
               | true=>
                 rw [Ff] at he;simp only [cond_true] at he;simp only [Bool.and_eq_true,Nat.ble_eq] at Ff;obtain ⟨⟨⟨g1,g2⟩,g3⟩,g4⟩:=Ff;obtain ⟨bA,bx⟩:=T2 f' wB;have yQ:=Lq f';have SA:am.size=aI.length:=by have:=congrArg List.length bA;simpa using this
                 obtain ⟨cb,b9⟩:=Pw g2;have yT:maxLen=9223372036854775807:=by decide
                 have aga:MapKept.Stamped am clock:=by
                  refine ⟨fun x ak=>?_,by rw [bx];exact b9,by rw [bA];exact akQ (UZ g1)⟩;have:x.born ∈ es.map (·.born):=by rw [<-bx];exact List.mem_map_of_mem ak
                  exact (cb _ this).2
                 have afn:∀x ∈ am.toList,∃n ∈ aI,x.key=.int .i64 n:=by intro x ak;have:x.key ∈ am.toList.map (·.key):=List.mem_map_of_mem ak;rw [bA] at this;obtain ⟨n,aV,e⟩:=List.mem_map.1 this;exact ⟨n,aV,e.symm⟩
                 have FA:∀x ∈ am.toList,∃n,x.key=.int .i64 n/\WideElems.rd P cG (fun _=>some ((.nil:DataW Unit),[])) x=some (.int .i64 n,.nil):=by intro x ak;obtain ⟨n,aV,e⟩:=afn x ak;refine ⟨n,e,?_⟩;unfold WideElems.rd;rw [e,Maps.keyOf_int_mk om (XS g3 n aV)];rfl
                 have ae7:WideElems.Fit P cG (fun _=>some ((.nil:DataW Unit),[])) am clock:=⟨by rw [SA,yQ,yT];omega,aga,fun x ak=>by obtain ⟨n,_,e⟩:=FA x ak;exact ⟨_,e⟩⟩;have h5:w.ownsMap P cG (fun _=>some ((.nil:DataW Unit),[])) xg.aM am.size (.map ((am.toList.map (WideElems.rg P cG (fun _=>some ((.nil:DataW Unit),[])))).foldr DataW.insert [])):=⟨am,clock,afx,ae7,Nat.le_refl _,rfl⟩;have afo:(am.toList.map (WideElems.rg P cG (fun _=>some ((.nil:DataW Unit),[])))).map (fun p=>intOf p.1)=aI:=by
                  have bn:∀(l:List MapEntry) (fA:List Int),(∀x ∈ l,∃n,x.key=.int .i64 n/\WideElems.rd P cG (fun _=>some ((.nil:DataW Unit),[])) x=some (.int .i64 n,.nil))->l.map (·.key)=fA.map (Value.int .i64)->(l.map (WideElems.rg P cG (fun _=>some ((.nil:DataW Unit),[])))).map (fun p=>intOf p.1)=fA:=by
                   intro l
                   induction l with
                   | nil=>
                     intro fA _ e;cases fA with
                     | nil=>rfl
                     | cons z fA=>simp at e
                   | cons x l br=>
                     intro fA eh e;cases fA with
                     | nil=>simp at e
                     | cons z fA=>
                       simp only [List.map_cons,List.cons.injEq] at e;obtain ⟨n,aP,a'⟩:=eh x (List.mem_cons_self ..);have agJ:z=n:=by have:=e.1.symm.trans aP;injection this
                       rw [List.map_cons,List.map_cons,br fA (fun y aZ=>eh y (List.mem_cons_of_mem _ aZ)) e.2];unfold WideElems.rg;rw [a',agJ];rfl
                  exact bn am.toList aI FA bA
                 have v8:(intKeys (.map ((am.toList.map (WideElems.rg P cG (fun _=>some ((.nil:DataW Unit),[])))).foldr DataW.insert []):DataW Unit)).Perm aI:=by have:=(WideShapes.sorted_perm (am.toList.map (WideElems.rg P cG (fun _=>some ((.nil:DataW Unit),[]))))).map (fun p=>intOf p.1);rw [afo] at this;exact this
                 have cr:Maps.size (.map ((am.toList.map (WideElems.rg P cG (fun _=>some ((.nil:DataW Unit),[])))).foldr DataW.insert []):DataW Unit)=aI.length:=by rw [Maps.size_eq,length_sorted,List.length_map,Array.length_toList,SA]
                 have aO:=(Array.getElem?_eq_some_iff.1 q').1;have aeL:w.cell? ⟨p.aM,0,none⟩=some (.map (some xg.aM)):=by simp only [World.cell?,q'];rw [<-wc];exact Array.getElem?_eq_getElem yG
                 have call:=C p.aM xg.aM am.size _ _ w aO aeL h5 (by rw [cr,yQ,yT];omega) (by rw [cr,yQ];omega);rw [show p.base+0=0 from by rw [oh]];refine call.mono fun e ao q=>?_;obtain ⟨v0,fV,rfl,ar,av,aK,bU⟩:=q;have hq:fV.Perm aI:=ar.trans v8;rw [ann hq] at av;have BU:fV.length=(e6 aI).length:=by rw [hq.length_eq,(uY aI).length_eq]
                 split at he
                 . rename_i mD;have:fV=[]:=by
                    rw [mD] at BU;exact List.eq_nil_of_length_eq_zero BU
                   cases he;rw [aK.2 this];exact ⟨E,_,rfl,fun _ _ q=>q,by simp only [Rel],s.below bU⟩
                 . rename_i x l y2;rw [y2] at BU av;cases wq:km h (uu (x::l)) 1 false with
                   | none=>rw [wq] at he;cases he
                   | some aa=>
                     rw [wq] at he;simp only [a8.val.injEq] at he;obtain ⟨rfl,rfl⟩:=he;obtain ⟨bw,cw⟩:=av;rcases cw with ⟨_,cw⟩ | ⟨bO,cap,cur,rfl,cw,cn,fo,dv,cP,fg⟩
                     . rw [BU] at cw;cases cw
                     . unfold km at wq;obtain ⟨aD,wq⟩:=eI wq;simp only [Bool.and_eq_true,Nat.ble_eq] at aD;simp only [Option.some.injEq] at wq;subst wq;have dZ:E.put (aj h.next) ⟨bO,0,cap⟩ (aj h.next)=some ⟨bO,0,cap⟩:=by unfold Env.put;rw [if_pos rfl]
                       have hle:E.le (E.put (aj h.next) ⟨bO,0,cap⟩):=Env.l' (s.fresh h.next (Nat.le_refl _));refine ⟨_,_,rfl,hle,?_,s.add (p:=⟨bO,0,cap⟩) bU.size (fun j aU _=>bU.block j aU) (Nat.le_trans s.frame.size cw) (fun bL ec hp oq eW=>?_) bU.os bU.tape bU.output (fun _ _ _ e=>by injection e with _ _ cM;omega) ?_⟩
                       . simp only [Rel];exact ⟨_,dZ,by simp only [Nat.zero_add];omega,by simp only [Nat.add_zero,Nat.sub_zero,BU]⟩
                       . have:=alD s hp oq;simp only at eW;omega
                       . have ho:=ER (bk.mono hle _ _ (TR E (x::l))) aD.1 (cur.toList.drop (fV.length * 1)).toArray;have aeR:((x::l).map encZ).toArray++(cur.toList.drop (fV.length * 1)).toArray=cur:=by
                          rw [<-fg,<-Array.toList_inj];simp
                         rw [aeR] at ho;exact ⟨aD.1,⟨bO,0,cap⟩,cur,cG,(0,0),dZ,Nat.le_trans s.frame.size cw,cn,.inr (Nat.le_refl _),fun _=>rfl,fun _=>by simp only;omega,ho⟩
           . cases he
         . cases he
     . cases he
end
end Go.Proofs.YthemdhlheglhoaaGreatDoor.a7
