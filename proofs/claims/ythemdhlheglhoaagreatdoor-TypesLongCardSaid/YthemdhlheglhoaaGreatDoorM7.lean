/- The abstract machine and its walks (a verified interpreter of the model's code: plain definitions and lemmas, no condition). Printed by a program from longer texts: names made short. -/
import Derived.Test.YthemdhlheglhoaaGreatDoorM4
import Derived.Shelf.SlIter.Sorted
import Derived.Shelf.SlIter.Nil
import Derived.StringKeys
import Derived.WideShapes
import Derived.Lib.ItoaNum
import Derived.Lib.Join
import Derived.Shelf.SlIterI.Sorted
import Derived.Shelf.SlIterI.Nil
set_option linter.unusedSectionVars false
set_option linter.unusedSimpArgs false
set_option linter.unusedVariables false
set_option maxHeartbeats 64000000
noncomputable section
namespace Go.Proofs.YthemdhlheglhoaaGreatDoor.a8
section
open Go Go.RowKit
variable [Lay]
end
section
open Go Go.RowKit Go.Maps Go.Sort Go.Shelf
open Go.Proofs (encStr)
variable [Lay]
def hV (clock:Nat):Nat->List cI->Bool
 | _,[]=>true
 | bC,m::ms=>Nat.ble bC m.born&&Nat.blt m.born clock&&hV clock (m.born+1) ms
theorem Po {clock:Nat}:∀{bC:Nat} {es:List cI},hV clock bC es=true->(∀n ∈ es.map (·.born),bC<=n/\n<clock)/\(es.map (·.born)).Nodup
 | bC,[],_=>⟨by simp,by simp⟩
 | bC,m::ms,h=>by
   simp only [hV,Bool.and_eq_true,Nat.ble_eq,Nat.blt_eq] at h;obtain ⟨g1,g2⟩:=Po h.2;refine ⟨fun n aV=>?_,?_⟩
   . rw [List.map_cons] at aV;rcases List.mem_cons.1 aV with rfl | aV
     . exact h.1
     . have:=g1 n aV;omega
   . rw [List.map_cons];refine List.nodup_cons.2 ⟨fun q=>?_,g2⟩;have:=g1 _ q;omega
theorem alr {ay:Fr} {E:Env} {h:ah} {w:World} (s:bd ay E h w) {b:aQ} {q:jH} (a6:(h.get b).own=true) (aC:E b=some q):q.aN<w.heap.size:=by
 have ae:=s.at aC;cases aB:h.get b with
 | dead=>rw [aB] at a6;cases a6
 | view n cs=>rw [aB] at a6;cases a6
 | cells n cs cQ st=>rw [aB] at ae;obtain ⟨_,dV,c,el,b5,e,_,bl,_⟩:=ae;rw [e] at aC;cases aC;exact (Array.getElem?_eq_some_iff.1 bl).1
 | iter st pos=>rw [aB] at ae;obtain ⟨dV,e,_,_,bl⟩:=ae;rw [e] at aC;cases aC;exact (Array.getElem?_eq_some_iff.1 bl).1
 | mp es clock=>rw [aB] at ae;obtain ⟨dV,a,e,_,bl,_⟩:=ae;rw [e] at aC;cases aC;exact (Array.getElem?_eq_some_iff.1 bl).1
 | dA l=>rw [aB] at ae;obtain ⟨dV,o,e,_,bl,_⟩:=ae;rw [e] at aC;cases aC;exact (Array.getElem?_eq_some_iff.1 bl).1
 | f_=>rw [aB] at ae;obtain ⟨dV,e,_,bl⟩:=ae;rw [e] at aC;cases aC;exact (Array.getElem?_eq_some_iff.1 bl).1
 | jW es=>rw [aB] at ae;obtain ⟨dV,a,c,l,e,_,bl,_⟩:=ae;rw [e] at aC;cases aC;exact (Array.getElem?_eq_some_iff.1 bl).1
 | jV src since seen last=>rw [aB] at ae;obtain ⟨dV,m,a,e,_,_,bl,_⟩:=ae;rw [e] at aC;cases aC;exact (Array.getElem?_eq_some_iff.1 bl).1
end
section
open Go Go.RowKit
variable [Lay]
def xw (cs:T V) (off:Nat):Nat->Option (List (List UInt8))
 | 0=>some []
 | n+1=>(match T.get .bad (aj off) cs with
   | .str s=>(match xw cs (off+1) n with
     | some l=>some (s::l)
     | none=>none)
   | _=>none)
def WX (r:List UInt8) (h:ah):a7:=bif Nat.ble r.length 1000000 then .val (.str r) h else .fail
def F1 (h:ah) (b:aQ) (off len:Nat) (sep:List UInt8):a7:=
 match h.get b with
 | .cells n cs _ _=>bif Nat.ble (off+len) n&&Nat.ble len 1000000 then (match xw cs off len with
   | some l=>WX (Lib.join l sep) h
   | none=>.fail) else .fail
 | _=>.fail
def Lf:x1:=⟨fun args h=>match args with
 | [x,y]=>(match y with
   | .str sep=>(match x with
     | .bB=>.val (.str []) h
     | .slice b off len _=>F1 h b off len sep
     | .dY b off len _=>F1 h b off len sep
     | _=>.fail)
   | _=>.fail)
 | _=>.fail⟩
structure HS (P:Program) (f:FuncId):Prop where
 many:∀(vC o c:Nat) (xs:List ByteArray) (sep:ByteArray) (w:World),(∀(j:Nat) x,xs[j]? =some x->w.cell? ⟨vC,o+j,none⟩=some (.string x))->vC<w.heap.size->xs.length<=140737488355328->xs.length<=c->
  (Lib.join (xs.map (·.data.toList)) sep.data.toList).length<=140737488355328->
  Calls P f #[.slice (some ⟨vC,o,none⟩) xs.length c,.string sep] w fun e an=>e=.returned (.string ⟨(Lib.join (xs.map (·.data.toList)) sep.data.toList).toArray⟩)/\Below w.heap.size w an
 akJ:∀(a:Option Addr) (c:Nat) (sep:ByteArray) (w:World),Calls P f #[.slice a 0 c,.string sep] w fun e an=>e=.returned (.string ⟨#[]⟩)/\an=w
theorem WY {cs:T V}:∀{n off:Nat} {l:List (List UInt8)},xw cs off n=some l->l.length=n/\∀j s,l[j]? =some s->T.get .bad (aj (off+j)) cs=.str s
 | 0,off,l,h=>by simp only [xw,Option.some.injEq] at h;subst h;exact ⟨rfl,fun j s h=>by simp at h⟩
 | n+1,off,l,h=>by
   simp only [xw] at h
   split at h
   case h_2=>cases h
   rename_i s aS;cases aE:xw cs (off+1) n with
   | none=>rw [aE] at h;cases h
   | some fh=>
     rw [aE] at h;simp only [Option.some.injEq] at h;subst h;obtain ⟨g1,g2⟩:=WY aE;refine ⟨by simp [g1],fun j t av=>?_⟩;cases j with
     | zero=>
       simp only [List.getElem?_cons_zero,Option.some.injEq] at av;subst av;exact aS
     | succ j=>
       have:=g2 j t (by simpa using av);rw [show off + (j+1)=off+1+j from by omega];exact this
theorem TJ {P:Program} {f:FuncId} (K:HS P f) {h ab:ah} {b:aQ} {off len:Nat} {sep:List UInt8} {v:V} (he:F1 h b off len sep=.val v ab) {ay:Fr} {E:Env} {w:World} (s:bd ay E h w) {p:jH} (af:E b=some p) {c:Nat} (aD:len<=c):
 Calls P f #[.slice (some ⟨p.aN,p.base+off,none⟩) len c,.string ⟨⟨sep⟩⟩] w fun e an=>∃ax x,e=.returned x/\E.le ax/\Rel ax v x/\bd ay ax ab an:=by
 unfold F1 at he
 split at he
 case h_2=>cases he
 rename_i n cs cQ st kp;obtain ⟨aeo,he⟩:=jJ he;simp only [Bool.and_eq_true,Nat.ble_eq] at aeo;cases aA:xw cs off len with
 | none=>rw [aA] at he;cases he
 | some L=>
   rw [aA] at he;simp only [WX] at he;obtain ⟨ae5,he⟩:=jJ he;rw [Nat.ble_eq] at ae5;simp only [a7.val.injEq] at he;obtain ⟨rfl,rfl⟩:=he;obtain ⟨g1,g2⟩:=WY aA;have ae:=s.at af;rw [kp] at ae;obtain ⟨_,p',QP,el,b5,aP,_,q8,_,_,_,Bv⟩:=ae;rw [af] at aP;cases aP;have aO:=(Array.getElem?_eq_some_iff.1 q8).1;have np:(L.map fun x=>(⟨⟨x⟩⟩:ByteArray)).map (·.data.toList)=L:=by rw [List.map_map];exact (List.map_congr_left (fun _ _=>rfl)).trans (List.map_id L)
   have cells:∀(j:Nat) (x:ByteArray),(L.map fun x=>(⟨⟨x⟩⟩:ByteArray))[j]? =some x->w.cell? ⟨p.aN,p.base+off+j,none⟩=some (.string x):=by
    intro j x ak;rw [List.getElem?_map] at ak;cases eL:L[j]? with
    | none=>rw [eL] at ak;cases ak
    | some t=>
      rw [eL] at ak;cases ak;have aU:j<len:=by rw [<-g1];exact (List.getElem?_eq_some_iff.1 eL).1
      have cq:p.base+off+j<QP.size:=by have:=Bv.1;omega
      have aE:=Bv.2 (off+j) QP[p.base+off+j] (by omega) (by rw [<-Nat.add_assoc];exact Array.getElem?_eq_getElem cq);rw [g2 j t eL] at aE;simp only [Rel] at aE;simp only [World.cell?,q8];rw [<-aE];exact Array.getElem?_eq_getElem cq
   have:=K.many p.aN (p.base+off) c (L.map fun x=>(⟨⟨x⟩⟩:ByteArray)) ⟨⟨sep⟩⟩ w cells aO (by rw [List.length_map];omega) (by rw [List.length_map];omega) (by rw [np];show (Lib.join L sep).length<=_;omega);rw [np,List.length_map,g1] at this;refine this.mono fun e an q=>?_;exact ⟨E,_,q.1,fun _ _ q=>q,by simp only [Rel],s.below q.2⟩
theorem agQ {P:Program} {f:FuncId} (K:HS P f) {args:List V} {h ab:ah} {v:V} (he:Lf.run args h=.val v ab)
 (ay:Fr) (E:Env) (w:World) (xs:List Value) (ak:bk E args xs) (s:bd ay E h w):
 Calls P f xs.toArray w fun e an=>∃ax x,e=.returned x/\E.le ax/\Rel ax v x/\bd ay ax ab an:=by
 simp only [Lf] at he
 split at he
 case h_2=>cases he
 rename_i x y
 split at he
 case h_2=>cases he
 rename_i sep;obtain ⟨X,_,rfl,ar,Y,_,rfl,aw,rfl⟩:=ak;simp only [Rel] at aw;subst aw;cases x<;>simp only at he<;>first
  | (cases he;done)
  | skip
 . simp only [Rel] at ar;obtain ⟨p,af,aD,rfl⟩:=ar;exact TJ K he s af aD
 . simp only [Rel] at ar;obtain ⟨p,af,aD,rfl⟩:=ar;exact TJ K he s af (by omega)
 . simp only [a7.val.injEq] at he;obtain ⟨rfl,rfl⟩:=he;simp only [Rel] at ar;subst ar;refine (K.akJ none 0 ⟨⟨sep⟩⟩ w).mono fun e an q=>?_;obtain ⟨ar,rfl⟩:=q;exact ⟨E,_,ar,fun _ _ q=>q,by simp only [Rel],s⟩
end
section
open Go Go.RowKit Go.Maps Go.Sort Go.Shelf
variable [Lay]
theorem ajw (a b:Int):Int.leB a b=decide (a<=b):=oA a b
theorem acF (a b:Int):Int.gY a b=decide (a=b):=by rw [k_];rfl
variable (k:IntKind) (a b:Int)
def zj (x:Int):List Int->List Int
 | []=>[x]
 | y::l=>bif Int.leB x y then x::y::l else y::zj x l
def e0:List Int->List Int
 | []=>[]
 | x::l=>zj x (e0 l)
theorem Lb (x:Int):∀l,(zj x l).Perm (x::l)
 | []=>List.Perm.refl _
 | y::l=>by
   simp only [zj];cases Int.leB x y with
   | true=>exact List.Perm.refl _
   | false=>exact ((Lb x l).cons y).trans (List.Perm.swap x y l)
theorem uW:∀l,(e0 l).Perm l
 | []=>List.Perm.refl _
 | x::l=>(Lb x _).trans ((uW l).cons x)
theorem TA (x:Int):∀l:List Int,l.Pairwise (·<=·)->(zj x l).Pairwise (·<=·)
 | [],_=>List.pairwise_singleton _ _
 | y::l,h=>by
   simp only [zj,ajw];by_cases zg:x<=y
   . rw [decide_eq_true zg];refine List.pairwise_cons.2 ⟨fun z bn=>?_,h⟩;rcases List.mem_cons.1 bn with rfl | bn
     . exact zg
     . exact Int.le_trans zg ((List.pairwise_cons.1 h).1 z bn)
   . rw [decide_eq_false zg];refine List.pairwise_cons.2 ⟨fun z bn=>?_,TA x l (List.pairwise_cons.1 h).2⟩;rcases List.mem_cons.1 ((Lb x l).mem_iff.1 bn) with rfl | bn
     . omega
     . exact (List.pairwise_cons.1 h).1 z bn
theorem MT:∀l,(e0 l).Pairwise (·<=·)
 | []=>.nil
 | x::l=>TA x _ (MT l)
theorem anb {l m:List Int} (h:m.Perm l):m.mergeSort (fun x y=>decide (x<=y))=e0 l:=by
 have af:(m.mergeSort (fun x y=>decide (x<=y))).Perm (e0 l):=((List.mergeSort_perm m _).trans h).trans (uW l).symm;have aS:(m.mergeSort (fun x y=>decide (x<=y))).Pairwise (·<=·):=by have:=List.pairwise_mergeSort (le:=fun x y:Int=>decide (x<=y)) (fun a b c aa ad=>by simp only [decide_eq_true_eq] at *;omega) (fun a b=>by simp only [Bool.or_eq_true,decide_eq_true_eq];omega) m;exact this.imp (fun h=>by simpa using h)
 exact af.eq_of_pairwise (fun a b _ _ aa ad=>Int.le_antisymm aa ad) aS (MT l)
def oy:List cI->Option (List Int)
 | []=>some []
 | m::ms=>match m.k with
   | .int .i64 n=>(match oy ms with
     | some l=>some (n::l)
     | none=>none)
   | _=>none
def w4 (x:Int):List Int->Bool
 | []=>false
 | y::l=>Int.gY x y||w4 x l
def uE:List Int->Bool
 | []=>true
 | x::l=>!w4 x l&&uE l
def u2:List Int->Bool
 | []=>true
 | x::l=>(Lit.int .i64 x).wf&&u2 l
def uu (l:List Int):List V:=l.map (V.int .i64)
def MU (g:FuncId) (lF:aQ) (h:ah):a7:=
 match h.get lF with
 | .cells n cs 0 _=>bif Nat.blt 0 n then (match T.get .bad (aj 0) cs with
   | .map b=>(match h.get b with
     | .mp es clock=>(match oy es with
       | some aI=>bif uE aI&&hV clock 0 es&&u2 aI&&Nat.ble es.length 1000000 then (match e0 aI with
          | []=>.val .bB h
          | x::l=>(match kc h (uu (x::l)) 1 false with
            | some ab=>.val (.dY (aj h.next) 0 (x::l).length 0) ab
            | none=>.fail)) else .fail
       | none=>.fail)
     | _=>.fail)
   | _=>.fail) else .fail
 | _=>.fail
def C5 (g:FuncId):x1:=
 ⟨fun args h=>match args with
   | [.func f [.ptr lF 0]]=>bif Nat.beq f g then MU g lF h else .fail
   | _=>.fail⟩
theorem Ll:∀{es:List cI} {aI:List Int},oy es=some aI->aI.length=es.length
 | [],aI,h=>by simp only [oy,Option.some.injEq] at h;subst h;rfl
 | m::ms,aI,h=>by
   unfold oy at h
   split at h
   . cases aC:oy ms with
     | none=>rw [aC] at h;cases h
     | some l=>
       rw [aC] at h;simp only [Option.some.injEq] at h;subst h;simp [Ll aC]
   . cases h
theorem TO {E:Env}:∀{es:List cI} {aI:List Int} {l:List MapEntry},oy es=some aI->eE E es l->l.map (·.key)=aI.map (Value.int .i64)/\l.map (·.born)=es.map (·.born)
 | [],aI,l,h,aE=>by simp only [oy,Option.some.injEq] at h;simp only [eE] at aE;subst h aE;exact ⟨rfl,rfl⟩
 | m::ms,aI,l,h,aE=>by
   simp only [eE] at aE;obtain ⟨e,gw,rfl,aa,ad,aJ,bG⟩:=aE;unfold oy at h
   split at h
   . rename_i n aH;cases aC:oy ms with
     | none=>rw [aC] at h;cases h
     | some l=>
       rw [aC] at h;simp only [Option.some.injEq] at h;subst h;obtain ⟨g1,g2⟩:=TO aC bG;rw [aH] at aa;simp only [Rel] at aa;simp only [List.map_cons,g1,g2,aa,aJ,and_self]
   . cases h
theorem Ux {x:Int}:∀{l:List Int},w4 x l=false->x ∉ l
 | [],_=>by simp
 | y::l,h=>by
   simp only [w4,Bool.or_eq_false_iff] at h;have aa:¬x=y:=by intro q;have:=h.1;rw [acF,decide_eq_false_iff_not] at this;exact this q
   rw [List.mem_cons];rintro (q | q)
   . exact aa q
   . exact Ux h.2 q
theorem UK:∀{l:List Int},uE l=true->l.Nodup
 | [],_=>List.nodup_nil
 | x::l,h=>by simp only [uE,Bool.and_eq_true,Bool.not_eq_true'] at h;exact List.nodup_cons.2 ⟨Ux h.1,UK h.2⟩
theorem Xz:∀{l:List Int},u2 l=true->∀x ∈ l,(Lit.int .i64 x).wf=true
 | [],_,x,ak=>by cases ak
 | y::l,h,x,ak=>by
   simp only [u2,Bool.and_eq_true] at h;rcases List.mem_cons.1 ak with rfl | ak
   . exact h.1
   . exact Xz h.2 x ak
theorem akH {l:List Int} (h:l.Nodup):(l.map (Value.int .i64)).Nodup:=by
 induction l with
 | nil=>exact List.nodup_nil
 | cons x l bq=>
   obtain ⟨aa,ad⟩:=List.nodup_cons.1 h;rw [List.map_cons];refine List.nodup_cons.2 ⟨fun q=>?_,bq ad⟩;obtain ⟨y,aZ,e⟩:=List.mem_map.1 q;cases e;exact aa aZ
def OC (P:Program) (f g:FuncId) (cA:TypeId):Prop:=
 ∀(va b bN:Nat) (oP:DataW Unit) (R:Value->Option (DataW Unit × List MemPlace)) (w:World),va<w.heap.size->w.cell? ⟨va,0,none⟩=some (.map (some b))->w.ownsMap P cA R b bN oP->Maps.size oP<=maxLen->Maps.size oP * 8<=140737488355328->
  Calls P f #[.func (.func g) #[] #[.pointer (some ⟨va,0,none⟩)]] w fun e an=>∃(v:Value) (fN:List Int),e=.returned v/\fN.Perm (intKeys oP)/\
   an.ownsRow w.heap.size cA 1 v fN.length ((fN.mergeSort (fun x y=>decide (x<=y))).map encZ)/\(v=.slice none 0 0↔fN=[])/\Below w.heap.size w an
theorem TD (E:Env):∀l:List Int,bk E (uu l) (l.map encZ)
 | []=>rfl
 | x::l=>by simp only [uu,List.map_cons,bk];exact ⟨_,_,rfl,by simp only [Rel],TD E l⟩
theorem WL {P:Program} {f g:FuncId} {cA:TypeId} (Fj:g≠dy) (oj:P.underlying cA=some (.int .i64)) (C:OC P f g cA) {args:List V} {h ab:ah} {v:V} (he:(C5 g).run args h=.val v ab)
 (ay:Fr) (E:Env) (w:World) (xs:List Value) (ak:bk E args xs) (s:bd ay E h w):
 Calls P f xs.toArray w fun e an=>∃ax x,e=.returned x/\E.le ax/\Rel ax v x/\bd ay ax ab an:=by
 match args,he,ak with
 | [.func kJ [.ptr lF 0]],he,ak=>
   simp only [C5] at he;cases Kb:Nat.beq kJ g with
   | false=>rw [Kb] at he;cases he
   | true=>
     rw [Kb] at he;simp only [cond_true] at he;have aeL:kJ=g:=Nat.eq_of_beq_eq_true Kb;subst aeL;simp only [bk] at ak;obtain ⟨y,_,rfl,aZ,rfl⟩:=ak;simp only [Rel] at aZ;obtain ⟨_,a,rfl,q,_,a1,aC,rfl⟩ | ⟨agr,_⟩:=aZ
     rotate_left
     . exact absurd agr Fj
     obtain ⟨p,af,rfl⟩:=aC;have aec:a=#[.pointer (some ⟨p.aN,p.base+0,none⟩)]:=by rw [<-Array.toList_inj,a1]
     subst aec;unfold MU at he
     split at he
     . rename_i n cs st iG;have og:=s.base lF p n cs st iG af;have kp:=s.at af;rw [iG] at kp;obtain ⟨_,p',c,el,b5,aP,_,q8,_,_,_,Bv⟩:=kp;rw [af] at aP;cases aP;cases aV:Nat.blt 0 n with
       | false=>rw [aV] at he;cases he
       | true=>
         rw [aV] at he;simp only [cond_true] at he;rw [Nat.blt_eq] at aV
         split at he
         . rename_i b np;have Fb:0<c.size:=by have:=Bv.1;omega
           have kt:=Bv.2 0 c[0] aV (by rw [og];exact Array.getElem?_eq_getElem Fb);rw [np] at kt;simp only [Rel] at kt;obtain ⟨zK,BM,wb⟩:=kt
           split at he
           . rename_i es clock o9;have om:=s.at BM;rw [o9] at om;obtain ⟨aqB,am,bf,_,afe,wA⟩:=om;rw [BM] at bf;cases bf;cases fU:oy es with
             | none=>rw [fU] at he;cases he
             | some aI=>
               rw [fU] at he;simp only at he;cases Fi:(uE aI&&hV clock 0 es&&u2 aI&&Nat.ble es.length 1000000) with
               | false=>rw [Fi] at he;cases he
               | true=>
                 rw [Fi] at he;simp only [cond_true] at he;simp only [Bool.and_eq_true,Nat.ble_eq] at Fi;obtain ⟨⟨⟨g1,g2⟩,g3⟩,g4⟩:=Fi;obtain ⟨bz,bx⟩:=TO fU wA;have yR:=Ll fU;have Sk:am.size=aI.length:=by have:=congrArg List.length bz;simpa using this
                 obtain ⟨cb,ca⟩:=Po g2;have yU:maxLen=9223372036854775807:=by decide
                 have afV:MapKept.Stamped am clock:=by
                  refine ⟨fun x ak=>?_,by rw [bx];exact ca,by rw [bz];exact akH (UK g1)⟩;have:x.born ∈ es.map (·.born):=by rw [<-bx];exact List.mem_map_of_mem ak
                  exact (cb _ this).2
                 have ae6:∀x ∈ am.toList,∃n ∈ aI,x.key=.int .i64 n:=by intro x ak;have:x.key ∈ am.toList.map (·.key):=List.mem_map_of_mem ak;rw [bz] at this;obtain ⟨n,aV,e⟩:=List.mem_map.1 this;exact ⟨n,aV,e.symm⟩
                 have FE:∀x ∈ am.toList,∃n,x.key=.int .i64 n/\WideElems.rd P cA (fun _=>some ((.nil:DataW Unit),[])) x=some (.int .i64 n,.nil):=by intro x ak;obtain ⟨n,aV,e⟩:=ae6 x ak;refine ⟨n,e,?_⟩;unfold WideElems.rd;rw [e,Maps.keyOf_int_mk oj (Xz g3 n aV)];rfl
                 have aeM:WideElems.Fit P cA (fun _=>some ((.nil:DataW Unit),[])) am clock:=⟨by rw [Sk,yR,yU];omega,afV,fun x ak=>by obtain ⟨n,_,e⟩:=FE x ak;exact ⟨_,e⟩⟩;have hY:w.ownsMap P cA (fun _=>some ((.nil:DataW Unit),[])) zK.aN am.size (.map ((am.toList.map (WideElems.rg P cA (fun _=>some ((.nil:DataW Unit),[])))).foldr DataW.insert [])):=⟨am,clock,afe,aeM,Nat.le_refl _,rfl⟩;have ae7:(am.toList.map (WideElems.rg P cA (fun _=>some ((.nil:DataW Unit),[])))).map (fun p=>intOf p.1)=aI:=by
                  have bn:∀(l:List MapEntry) (fv:List Int),(∀x ∈ l,∃n,x.key=.int .i64 n/\WideElems.rd P cA (fun _=>some ((.nil:DataW Unit),[])) x=some (.int .i64 n,.nil))->l.map (·.key)=fv.map (Value.int .i64)->(l.map (WideElems.rg P cA (fun _=>some ((.nil:DataW Unit),[])))).map (fun p=>intOf p.1)=fv:=by
                   intro l
                   induction l with
                   | nil=>
                     intro fv _ e;cases fv with
                     | nil=>rfl
                     | cons z fv=>simp at e
                   | cons x l bq=>
                     intro fv ec e;cases fv with
                     | nil=>simp at e
                     | cons z fv=>
                       simp only [List.map_cons,List.cons.injEq] at e;obtain ⟨n,aP,bf⟩:=ec x (List.mem_cons_self ..);have ags:z=n:=by have:=e.1.symm.trans aP;injection this
                       rw [List.map_cons,List.map_cons,bq fv (fun y aZ=>ec y (List.mem_cons_of_mem _ aZ)) e.2];unfold WideElems.rg;rw [bf,ags];rfl
                  exact bn am.toList aI FE bz
                 have v7:(intKeys (.map ((am.toList.map (WideElems.rg P cA (fun _=>some ((.nil:DataW Unit),[])))).foldr DataW.insert []):DataW Unit)).Perm aI:=by have:=(WideShapes.sorted_perm (am.toList.map (WideElems.rg P cA (fun _=>some ((.nil:DataW Unit),[]))))).map (fun p=>intOf p.1);rw [ae7] at this;exact this
                 have cq:Maps.size (.map ((am.toList.map (WideElems.rg P cA (fun _=>some ((.nil:DataW Unit),[])))).foldr DataW.insert []):DataW Unit)=aI.length:=by rw [Maps.size_eq,length_sorted,List.length_map,Array.length_toList,Sk]
                 have aO:=(Array.getElem?_eq_some_iff.1 q8).1;have aeq:w.cell? ⟨p.aN,0,none⟩=some (.map (some zK.aN)):=by simp only [World.cell?,q8];rw [<-wb];exact Array.getElem?_eq_getElem Fb
                 have call:=C p.aN zK.aN am.size _ _ w aO aeq hY (by rw [cq,yR,yU];omega) (by rw [cq,yR];omega);rw [show p.base+0=0 from by rw [og]];refine call.mono fun e an q=>?_;obtain ⟨v0,fN,rfl,ar,aw,aK,bY⟩:=q;have hq:fN.Perm aI:=ar.trans v7;rw [anb hq] at aw;have BV:fN.length=(e0 aI).length:=by rw [hq.length_eq,(uW aI).length_eq]
                 split at he
                 . rename_i mw;have:fN=[]:=by
                    rw [mw] at BV;exact List.eq_nil_of_length_eq_zero BV
                   cases he;rw [aK.2 this];exact ⟨E,_,rfl,fun _ _ q=>q,by simp only [Rel],s.below bY⟩
                 . rename_i x l y5;rw [y5] at BV aw;cases wo:kc h (uu (x::l)) 1 false with
                   | none=>rw [wo] at he;cases he
                   | some aa=>
                     rw [wo] at he;simp only [a7.val.injEq] at he;obtain ⟨rfl,rfl⟩:=he;obtain ⟨br,cF⟩:=aw;rcases cF with ⟨_,cF⟩ | ⟨bO,cap,cur,rfl,cF,cr,gm,c1,ct,eJ⟩
                     . rw [BV] at cF;cases cF
                     . unfold kc at wo;obtain ⟨aD,wo⟩:=eG wo;simp only [Bool.and_eq_true,Nat.ble_eq] at aD;simp only [Option.some.injEq] at wo;subst wo;have dT:E.put (aj h.next) ⟨bO,0,cap⟩ (aj h.next)=some ⟨bO,0,cap⟩:=by unfold Env.put;rw [if_pos rfl]
                       have hle:E.le (E.put (aj h.next) ⟨bO,0,cap⟩):=Env.l1 (s.fresh h.next (Nat.le_refl _));refine ⟨_,_,rfl,hle,?_,s.add (p:=⟨bO,0,cap⟩) bY.size (fun j aU _=>bY.block j aU) (Nat.le_trans s.frame.size cF) (fun bL dV hp oo eQ=>?_) bY.os bY.tape bY.output (fun _ _ _ e=>by injection e with _ _ c4;omega) ?_⟩
                       . simp only [Rel];exact ⟨_,dT,by simp only [Nat.zero_add];omega,by simp only [Nat.add_zero,Nat.sub_zero,BV]⟩
                       . have:=alr s hp oo;simp only at eQ;omega
                       . have hA:=ET (bk.mono hle _ _ (TD E (x::l))) aD.1 (cur.toList.drop (fN.length * 1)).toArray;have aew:((x::l).map encZ).toArray++(cur.toList.drop (fN.length * 1)).toArray=cur:=by
                          rw [<-eJ,<-Array.toList_inj];simp
                         rw [aew] at hA;exact ⟨aD.1,⟨bO,0,cap⟩,cur,cA,(0,0),dT,Nat.le_trans s.frame.size cF,cr,.inr (Nat.le_refl _),fun _=>rfl,fun _=>by simp only;omega,hA⟩
           . cases he
         . cases he
     . cases he
end
end Go.Proofs.YthemdhlheglhoaaGreatDoor.a8
