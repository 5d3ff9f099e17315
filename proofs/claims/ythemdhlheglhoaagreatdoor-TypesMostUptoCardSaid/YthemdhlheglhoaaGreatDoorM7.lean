/- The abstract machine and its walks (a verified interpreter of the model's code: plain definitions and lemmas, no condition). Printed by a program from longer texts: names made short. -/
import Derived.Test.YthemdhlheglhoaaGreatDoorM4
import Derived.Shelf.SlIter.Sorted
import Derived.Shelf.SlIter.Nil
import Derived.StringKeys
import Derived.WideShapes
import Derived.Lib.ItoaNum
import Derived.Lib.Join
import Derived.Shelf.SlIterI.Sorted
import Derived.Shelf.SlIterI.Nil
set_option linter.unusedSectionVars false
set_option linter.unusedSimpArgs false
set_option linter.unusedVariables false
set_option maxHeartbeats 64000000
noncomputable section
namespace Go.Proofs.YthemdhlheglhoaaGreatDoor.aY
section
open Go Go.RowKit
variable [Lay]
end
section
open Go Go.RowKit Go.Maps Go.Sort Go.Shelf
open Go.Proofs (encStr)
variable [Lay]
def hA (clock:Nat):Nat->List cE->Bool
 | _,[]=>true
 | bC,m::ms=>Nat.ble bC m.born&&Nat.blt m.born clock&&hA clock (m.born+1) ms
theorem Pt {clock:Nat}:∀{bC:Nat} {es:List cE},hA clock bC es=true->(∀n ∈ es.map (·.born),bC<=n/\n<clock)/\(es.map (·.born)).Nodup
 | bC,[],_=>⟨by simp,by simp⟩
 | bC,m::ms,h=>by
   simp only [hA,Bool.and_eq_true,Nat.ble_eq,Nat.blt_eq] at h;obtain ⟨g1,g2⟩:=Pt h.2;refine ⟨fun n aQ=>?_,?_⟩
   . rw [List.map_cons] at aQ;rcases List.mem_cons.1 aQ with rfl | aQ
     . exact h.1
     . have:=g1 n aQ;omega
   . rw [List.map_cons];refine List.nodup_cons.2 ⟨fun q=>?_,g2⟩;have:=g1 _ q;omega
theorem alE {ay:Fr} {E:Env} {h:ah} {w:World} (s:bf ay E h w) {b:aO} {q:jr} (aX:(h.get b).own=true) (aA:E b=some q):q.aW<w.heap.size:=by
 have ae:=s.at aA;cases aF:h.get b with
 | dead=>rw [aF] at aX;cases aX
 | view n cs=>rw [aF] at aX;cases aX
 | cells n cs cX st=>rw [aF] at ae;obtain ⟨_,ep,c,el,bZ,e,_,bk,_⟩:=ae;rw [e] at aA;cases aA;exact (Array.getElem?_eq_some_iff.1 bk).1
 | iter st pos=>rw [aF] at ae;obtain ⟨ep,e,_,_,bk⟩:=ae;rw [e] at aA;cases aA;exact (Array.getElem?_eq_some_iff.1 bk).1
 | mp es clock=>rw [aF] at ae;obtain ⟨ep,a,e,_,bk,_⟩:=ae;rw [e] at aA;cases aA;exact (Array.getElem?_eq_some_iff.1 bk).1
 | df l=>rw [aF] at ae;obtain ⟨ep,o,e,_,bk,_⟩:=ae;rw [e] at aA;cases aA;exact (Array.getElem?_eq_some_iff.1 bk).1
 | fj=>rw [aF] at ae;obtain ⟨ep,e,_,bk⟩:=ae;rw [e] at aA;cases aA;exact (Array.getElem?_eq_some_iff.1 bk).1
 | jH es=>rw [aF] at ae;obtain ⟨ep,a,c,l,e,_,bk,_⟩:=ae;rw [e] at aA;cases aA;exact (Array.getElem?_eq_some_iff.1 bk).1
 | jG src since seen last=>rw [aF] at ae;obtain ⟨ep,m,a,e,_,_,bk,_⟩:=ae;rw [e] at aA;cases aA;exact (Array.getElem?_eq_some_iff.1 bk).1
end
section
open Go Go.RowKit
variable [Lay]
def xj (cs:T V) (off:Nat):Nat->Option (List (List UInt8))
 | 0=>some []
 | n+1=>(match T.get .bad (aj off) cs with
   | .str s=>(match xj cs (off+1) n with
     | some l=>some (s::l)
     | none=>none)
   | _=>none)
def WV (r:List UInt8) (h:ah):a7:=bif Nat.ble r.length 1000000 then .val (.str r) h else .fail
def FK (h:ah) (b:aO) (off len:Nat) (sep:List UInt8):a7:=
 match h.get b with
 | .cells n cs _ _=>bif Nat.ble (off+len) n&&Nat.ble len 1000000 then (match xj cs off len with
   | some l=>WV (Lib.join l sep) h
   | none=>.fail) else .fail
 | _=>.fail
def Lr:xV:=⟨fun args h=>match args with
 | [x,y]=>(match y with
   | .str sep=>(match x with
     | .bU=>.val (.str []) h
     | .slice b off len _=>FK h b off len sep
     | .ez b off len _=>FK h b off len sep
     | _=>.fail)
   | _=>.fail)
 | _=>.fail⟩
structure HX (P:Program) (f:FuncId):Prop where
 many:∀(vu o c:Nat) (xs:List ByteArray) (sep:ByteArray) (w:World),(∀(j:Nat) x,xs[j]? =some x->w.cell? ⟨vu,o+j,none⟩=some (.string x))->vu<w.heap.size->xs.length<=140737488355328->xs.length<=c->
  (Lib.join (xs.map (·.data.toList)) sep.data.toList).length<=140737488355328->
  Calls P f #[.slice (some ⟨vu,o,none⟩) xs.length c,.string sep] w fun e w'=>e=.returned (.string ⟨(Lib.join (xs.map (·.data.toList)) sep.data.toList).toArray⟩)/\Below w.heap.size w w'
 akU:∀(a:Option Addr) (c:Nat) (sep:ByteArray) (w:World),Calls P f #[.slice a 0 c,.string sep] w fun e w'=>e=.returned (.string ⟨#[]⟩)/\w'=w
theorem WW {cs:T V}:∀{n off:Nat} {l:List (List UInt8)},xj cs off n=some l->l.length=n/\∀j s,l[j]? =some s->T.get .bad (aj (off+j)) cs=.str s
 | 0,off,l,h=>by simp only [xj,Option.some.injEq] at h;subst h;exact ⟨rfl,fun j s h=>by simp at h⟩
 | n+1,off,l,h=>by
   simp only [xj] at h
   split at h
   case h_2=>cases h
   rename_i s aM;cases aG:xj cs (off+1) n with
   | none=>rw [aG] at h;cases h
   | some cG=>
     rw [aG] at h;simp only [Option.some.injEq] at h;subst h;obtain ⟨g1,g2⟩:=WW aG;refine ⟨by simp [g1],fun j t au=>?_⟩;cases j with
     | zero=>
       simp only [List.getElem?_cons_zero,Option.some.injEq] at au;subst au;exact aM
     | succ j=>
       have:=g2 j t (by simpa using au);rw [show off + (j+1)=off+1+j from by omega];exact this
theorem TI {P:Program} {f:FuncId} (K:HX P f) {h ab:ah} {b:aO} {off len:Nat} {sep:List UInt8} {v:V} (he:FK h b off len sep=.val v ab) {ay:Fr} {E:Env} {w:World} (s:bf ay E h w) {p:jr} (af:E b=some p) {c:Nat} (aC:len<=c):
 Calls P f #[.slice (some ⟨p.aW,p.base+off,none⟩) len c,.string ⟨⟨sep⟩⟩] w fun e w'=>∃aw x,e=.returned x/\E.le aw/\Rel aw v x/\bf ay aw ab w':=by
 unfold FK at he
 split at he
 case h_2=>cases he
 rename_i n cs cX st kg;obtain ⟨aeF,he⟩:=jv he;simp only [Bool.and_eq_true,Nat.ble_eq] at aeF;cases az:xj cs off len with
 | none=>rw [az] at he;cases he
 | some L=>
   rw [az] at he;simp only [WV] at he;obtain ⟨Sz,he⟩:=jv he;rw [Nat.ble_eq] at Sz;simp only [a7.val.injEq] at he;obtain ⟨rfl,rfl⟩:=he;obtain ⟨g1,g2⟩:=WW az;have ae:=s.at af;rw [kg] at ae;obtain ⟨_,p',Qy,el,bZ,aN,_,qZ,_,_,_,Bf⟩:=ae;rw [af] at aN;cases aN;have aT:=(Array.getElem?_eq_some_iff.1 qZ).1;have mS:(L.map fun x=>(⟨⟨x⟩⟩:ByteArray)).map (·.data.toList)=L:=by rw [List.map_map];exact (List.map_congr_left (fun _ _=>rfl)).trans (List.map_id L)
   have cells:∀(j:Nat) (x:ByteArray),(L.map fun x=>(⟨⟨x⟩⟩:ByteArray))[j]? =some x->w.cell? ⟨p.aW,p.base+off+j,none⟩=some (.string x):=by
    intro j x ai;rw [List.getElem?_map] at ai;cases eY:L[j]? with
    | none=>rw [eY] at ai;cases ai
    | some t=>
      rw [eY] at ai;cases ai;have a6:j<len:=by rw [<-g1];exact (List.getElem?_eq_some_iff.1 eY).1
      have b':p.base+off+j<Qy.size:=by have:=Bf.1;omega
      have aG:=Bf.2 (off+j) Qy[p.base+off+j] (by omega) (by rw [<-Nat.add_assoc];exact Array.getElem?_eq_getElem b');rw [g2 j t eY] at aG;simp only [Rel] at aG;simp only [World.cell?,qZ];rw [<-aG];exact Array.getElem?_eq_getElem b'
   have:=K.many p.aW (p.base+off) c (L.map fun x=>(⟨⟨x⟩⟩:ByteArray)) ⟨⟨sep⟩⟩ w cells aT (by rw [List.length_map];omega) (by rw [List.length_map];omega) (by rw [mS];show (Lib.join L sep).length<=_;omega);rw [mS,List.length_map,g1] at this;refine this.mono fun e w' q=>?_;exact ⟨E,_,q.1,fun _ _ q=>q,by simp only [Rel],s.below q.2⟩
theorem ag3 {P:Program} {f:FuncId} (K:HX P f) {args:List V} {h ab:ah} {v:V} (he:Lr.run args h=.val v ab)
 (ay:Fr) (E:Env) (w:World) (xs:List Value) (ai:bh E args xs) (s:bf ay E h w):
 Calls P f xs.toArray w fun e w'=>∃aw x,e=.returned x/\E.le aw/\Rel aw v x/\bf ay aw ab w':=by
 simp only [Lr] at he
 split at he
 case h_2=>cases he
 rename_i x y
 split at he
 case h_2=>cases he
 rename_i sep;obtain ⟨X,_,rfl,ao,Y,_,rfl,ax,rfl⟩:=ai;simp only [Rel] at ax;subst ax;cases x<;>simp only at he<;>first
  | (cases he;done)
  | skip
 . simp only [Rel] at ao;obtain ⟨p,af,aC,rfl⟩:=ao;exact TI K he s af aC
 . simp only [Rel] at ao;obtain ⟨p,af,aC,rfl⟩:=ao;exact TI K he s af (by omega)
 . simp only [a7.val.injEq] at he;obtain ⟨rfl,rfl⟩:=he;simp only [Rel] at ao;subst ao;refine (K.akU none 0 ⟨⟨sep⟩⟩ w).mono fun e w' q=>?_;obtain ⟨ao,rfl⟩:=q;exact ⟨E,_,ao,fun _ _ q=>q,by simp only [Rel],s⟩
end
section
open Go Go.RowKit Go.Maps Go.Sort Go.Shelf
variable [Lay]
theorem ajK (a b:Int):Int.leB a b=decide (a<=b):=n2 a b
theorem acJ (a b:Int):Int.gz a b=decide (a=b):=by rw [kY];rfl
variable (k:IntKind) (a b:Int)
def zd (x:Int):List Int->List Int
 | []=>[x]
 | y::l=>bif Int.leB x y then x::y::l else y::zd x l
def eO:List Int->List Int
 | []=>[]
 | x::l=>zd x (eO l)
theorem Ln (x:Int):∀l,(zd x l).Perm (x::l)
 | []=>List.Perm.refl _
 | y::l=>by
   simp only [zd];cases Int.leB x y with
   | true=>exact List.Perm.refl _
   | false=>exact ((Ln x l).cons y).trans (List.Perm.swap x y l)
theorem uR:∀l,(eO l).Perm l
 | []=>List.Perm.refl _
 | x::l=>(Ln x _).trans ((uR l).cons x)
theorem Tz (x:Int):∀l:List Int,l.Pairwise (·<=·)->(zd x l).Pairwise (·<=·)
 | [],_=>List.pairwise_singleton _ _
 | y::l,h=>by
   simp only [zd,ajK];by_cases za:x<=y
   . rw [decide_eq_true za];refine List.pairwise_cons.2 ⟨fun z bn=>?_,h⟩;rcases List.mem_cons.1 bn with rfl | bn
     . exact za
     . exact Int.le_trans za ((List.pairwise_cons.1 h).1 z bn)
   . rw [decide_eq_false za];refine List.pairwise_cons.2 ⟨fun z bn=>?_,Tz x l (List.pairwise_cons.1 h).2⟩;rcases List.mem_cons.1 ((Ln x l).mem_iff.1 bn) with rfl | bn
     . omega
     . exact (List.pairwise_cons.1 h).1 z bn
theorem M4:∀l,(eO l).Pairwise (·<=·)
 | []=>.nil
 | x::l=>Tz x _ (M4 l)
theorem ana {l m:List Int} (h:m.Perm l):m.mergeSort (fun x y=>decide (x<=y))=eO l:=by
 have af:(m.mergeSort (fun x y=>decide (x<=y))).Perm (eO l):=((List.mergeSort_perm m _).trans h).trans (uR l).symm;have aM:(m.mergeSort (fun x y=>decide (x<=y))).Pairwise (·<=·):=by have:=List.pairwise_mergeSort (le:=fun x y:Int=>decide (x<=y)) (fun a b c aa ad=>by simp only [decide_eq_true_eq] at *;omega) (fun a b=>by simp only [Bool.or_eq_true,decide_eq_true_eq];omega) m;exact this.imp (fun h=>by simpa using h)
 exact af.eq_of_pairwise (fun a b _ _ aa ad=>Int.le_antisymm aa ad) aM (M4 l)
def n0:List cE->Option (List Int)
 | []=>some []
 | m::ms=>match m.k with
   | .int .i64 n=>(match n0 ms with
     | some l=>some (n::l)
     | none=>none)
   | _=>none
def wQ (x:Int):List Int->Bool
 | []=>false
 | y::l=>Int.gz x y||wQ x l
def uu:List Int->Bool
 | []=>true
 | x::l=>!wQ x l&&uu l
def uW:List Int->Bool
 | []=>true
 | x::l=>(Lit.int .i64 x).wf&&uW l
def uh (l:List Int):List V:=l.map (V.int .i64)
def M5 (g:FuncId) (nK:aO) (h:ah):a7:=
 match h.get nK with
 | .cells n cs 0 _=>bif Nat.blt 0 n then (match T.get .bad (aj 0) cs with
   | .map b=>(match h.get b with
     | .mp es clock=>(match n0 es with
       | some aI=>bif uu aI&&hA clock 0 es&&uW aI&&Nat.ble es.length 1000000 then (match eO aI with
          | []=>.val .bU h
          | x::l=>(match j6 h (uh (x::l)) 1 false with
            | some ab=>.val (.ez (aj h.next) 0 (x::l).length 0) ab
            | none=>.fail)) else .fail
       | none=>.fail)
     | _=>.fail)
   | _=>.fail) else .fail
 | _=>.fail
def CH (g:FuncId):xV:=
 ⟨fun args h=>match args with
   | [.func f [.ptr nK 0]]=>bif Nat.beq f g then M5 g nK h else .fail
   | _=>.fail⟩
theorem Ly:∀{es:List cE} {aI:List Int},n0 es=some aI->aI.length=es.length
 | [],aI,h=>by simp only [n0,Option.some.injEq] at h;subst h;rfl
 | m::ms,aI,h=>by
   unfold n0 at h
   split at h
   . cases aA:n0 ms with
     | none=>rw [aA] at h;cases h
     | some l=>
       rw [aA] at h;simp only [Option.some.injEq] at h;subst h;simp [Ly aA]
   . cases h
theorem TM {E:Env}:∀{es:List cE} {aI:List Int} {l:List MapEntry},n0 es=some aI->ew E es l->l.map (·.key)=aI.map (Value.int .i64)/\l.map (·.born)=es.map (·.born)
 | [],aI,l,h,aG=>by simp only [n0,Option.some.injEq] at h;simp only [ew] at aG;subst h aG;exact ⟨rfl,rfl⟩
 | m::ms,aI,l,h,aG=>by
   simp only [ew] at aG;obtain ⟨e,gf,rfl,aa,ad,aH,bt⟩:=aG;unfold n0 at h
   split at h
   . rename_i n aD;cases aA:n0 ms with
     | none=>rw [aA] at h;cases h
     | some l=>
       rw [aA] at h;simp only [Option.some.injEq] at h;subst h;obtain ⟨g1,g2⟩:=TM aA bt;rw [aD] at aa;simp only [Rel] at aa;simp only [List.map_cons,g1,g2,aa,aH,and_self]
   . cases h
theorem UA {x:Int}:∀{l:List Int},wQ x l=false->x ∉ l
 | [],_=>by simp
 | y::l,h=>by
   simp only [wQ,Bool.or_eq_false_iff] at h;have aa:¬x=y:=by intro q;have:=h.1;rw [acJ,decide_eq_false_iff_not] at this;exact this q
   rw [List.mem_cons];rintro (q | q)
   . exact aa q
   . exact UA h.2 q
theorem UN:∀{l:List Int},uu l=true->l.Nodup
 | [],_=>List.nodup_nil
 | x::l,h=>by simp only [uu,Bool.and_eq_true,Bool.not_eq_true'] at h;exact List.nodup_cons.2 ⟨UA h.1,UN h.2⟩
theorem XG:∀{l:List Int},uW l=true->∀x ∈ l,(Lit.int .i64 x).wf=true
 | [],_,x,ai=>by cases ai
 | y::l,h,x,ai=>by
   simp only [uW,Bool.and_eq_true] at h;rcases List.mem_cons.1 ai with rfl | ai
   . exact h.1
   . exact XG h.2 x ai
theorem akS {l:List Int} (h:l.Nodup):(l.map (Value.int .i64)).Nodup:=by
 induction l with
 | nil=>exact List.nodup_nil
 | cons x l bd=>
   obtain ⟨aa,ad⟩:=List.nodup_cons.1 h;rw [List.map_cons];refine List.nodup_cons.2 ⟨fun q=>?_,bd ad⟩;obtain ⟨y,a1,e⟩:=List.mem_map.1 q;cases e;exact aa a1
def OM (P:Program) (f g:FuncId) (cw:TypeId):Prop:=
 ∀(u3 b bE:Nat) (qp:DataW Unit) (R:Value->Option (DataW Unit × List MemPlace)) (w:World),u3<w.heap.size->w.cell? ⟨u3,0,none⟩=some (.map (some b))->w.ownsMap P cw R b bE qp->Maps.size qp<=maxLen->Maps.size qp * 8<=140737488355328->
  Calls P f #[.func (.func g) #[] #[.pointer (some ⟨u3,0,none⟩)]] w fun e w'=>∃(v:Value) (e2:List Int),e=.returned v/\e2.Perm (intKeys qp)/\
   w'.ownsRow w.heap.size cw 1 v e2.length ((e2.mergeSort (fun x y=>decide (x<=y))).map encZ)/\(v=.slice none 0 0↔e2=[])/\Below w.heap.size w w'
theorem TC (E:Env):∀l:List Int,bh E (uh l) (l.map encZ)
 | []=>rfl
 | x::l=>by simp only [uh,List.map_cons,bh];exact ⟨_,_,rfl,by simp only [Rel],TC E l⟩
theorem WM {P:Program} {f g:FuncId} {cw:TypeId} (E0:g≠dt) (nV:P.underlying cw=some (.int .i64)) (C:OM P f g cw) {args:List V} {h ab:ah} {v:V} (he:(CH g).run args h=.val v ab)
 (ay:Fr) (E:Env) (w:World) (xs:List Value) (ai:bh E args xs) (s:bf ay E h w):
 Calls P f xs.toArray w fun e w'=>∃aw x,e=.returned x/\E.le aw/\Rel aw v x/\bf ay aw ab w':=by
 match args,he,ai with
 | [.func kZ [.ptr nK 0]],he,ai=>
   simp only [CH] at he;cases Kn:Nat.beq kZ g with
   | false=>rw [Kn] at he;cases he
   | true=>
     rw [Kn] at he;simp only [cond_true] at he;have ae0:kZ=g:=Nat.eq_of_beq_eq_true Kn;subst ae0;simp only [bh] at ai;obtain ⟨y,_,rfl,a1,rfl⟩:=ai;simp only [Rel] at a1;obtain ⟨_,a,rfl,q,_,aV,aA,rfl⟩ | ⟨agB,_⟩:=a1
     rotate_left
     . exact absurd agB E0
     obtain ⟨p,af,rfl⟩:=aA;have aer:a=#[.pointer (some ⟨p.aW,p.base+0,none⟩)]:=by rw [<-Array.toList_inj,aV]
     subst aer;unfold M5 at he
     split at he
     . rename_i n cs st iq;have nS:=s.base nK p n cs st iq af;have kg:=s.at af;rw [iq] at kg;obtain ⟨_,p',c,el,bZ,aN,_,qZ,_,_,_,Bf⟩:=kg;rw [af] at aN;cases aN;cases aQ:Nat.blt 0 n with
       | false=>rw [aQ] at he;cases he
       | true=>
         rw [aQ] at he;simp only [cond_true] at he;rw [Nat.blt_eq] at aQ
         split at he
         . rename_i b mS;have yB:0<c.size:=by have:=Bf.1;omega
           have kl:=Bf.2 0 c[0] aQ (by rw [nS];exact Array.getElem?_eq_getElem yB);rw [mS] at kl;simp only [Rel] at kl;obtain ⟨zA,SQ,vX⟩:=kl
           split at he
           . rename_i es clock oR;have nX:=s.at SQ;rw [oR] at nX;obtain ⟨aqV,am,aZ,_,afr,q2⟩:=nX;rw [SQ] at aZ;cases aZ;cases oT:n0 es with
             | none=>rw [oT] at he;cases he
             | some aI=>
               rw [oT] at he;simp only at he;cases EZ:(uu aI&&hA clock 0 es&&uW aI&&Nat.ble es.length 1000000) with
               | false=>rw [EZ] at he;cases he
               | true=>
                 rw [EZ] at he;simp only [cond_true] at he;simp only [Bool.and_eq_true,Nat.ble_eq] at EZ;obtain ⟨⟨⟨g1,g2⟩,g3⟩,g4⟩:=EZ;obtain ⟨bK,bT⟩:=TM oT q2;have yM:=Ly oT;have Sh:am.size=aI.length:=by have:=congrArg List.length bK;simpa using this
                 obtain ⟨cn,ch⟩:=Pt g2;have yO:maxLen=9223372036854775807:=by decide
                 have af8:MapKept.Stamped am clock:=by
                  refine ⟨fun x ai=>?_,by rw [bT];exact ch,by rw [bK];exact akS (UN g1)⟩;have:x.born ∈ es.map (·.born):=by rw [<-bT];exact List.mem_map_of_mem ai
                  exact (cn _ this).2
                 have afg:∀x ∈ am.toList,∃n ∈ aI,x.key=.int .i64 n:=by intro x ai;have:x.key ∈ am.toList.map (·.key):=List.mem_map_of_mem ai;rw [bK] at this;obtain ⟨n,aQ,e⟩:=List.mem_map.1 this;exact ⟨n,aQ,e.symm⟩
                 have Ff:∀x ∈ am.toList,∃n,x.key=.int .i64 n/\WideElems.rd P cw (fun _=>some ((.nil:DataW Unit),[])) x=some (.int .i64 n,.nil):=by intro x ai;obtain ⟨n,aQ,e⟩:=afg x ai;refine ⟨n,e,?_⟩;unfold WideElems.rd;rw [e,Maps.keyOf_int_mk nV (XG g3 n aQ)];rfl
                 have ae1:WideElems.Fit P cw (fun _=>some ((.nil:DataW Unit),[])) am clock:=⟨by rw [Sh,yM,yO];omega,af8,fun x ai=>by obtain ⟨n,_,e⟩:=Ff x ai;exact ⟨_,e⟩⟩;have hE:w.ownsMap P cw (fun _=>some ((.nil:DataW Unit),[])) zA.aW am.size (.map ((am.toList.map (WideElems.rg P cw (fun _=>some ((.nil:DataW Unit),[])))).foldr DataW.insert [])):=⟨am,clock,afr,ae1,Nat.le_refl _,rfl⟩;have afh:(am.toList.map (WideElems.rg P cw (fun _=>some ((.nil:DataW Unit),[])))).map (fun p=>intOf p.1)=aI:=by
                  have bn:∀(l:List MapEntry) (iF:List Int),(∀x ∈ l,∃n,x.key=.int .i64 n/\WideElems.rd P cw (fun _=>some ((.nil:DataW Unit),[])) x=some (.int .i64 n,.nil))->l.map (·.key)=iF.map (Value.int .i64)->(l.map (WideElems.rg P cw (fun _=>some ((.nil:DataW Unit),[])))).map (fun p=>intOf p.1)=iF:=by
                   intro l
                   induction l with
                   | nil=>
                     intro iF _ e;cases iF with
                     | nil=>rfl
                     | cons z iF=>simp at e
                   | cons x l bd=>
                     intro iF eb e;cases iF with
                     | nil=>simp at e
                     | cons z iF=>
                       simp only [List.map_cons,List.cons.injEq] at e;obtain ⟨n,aN,aZ⟩:=eb x (List.mem_cons_self ..);have agC:z=n:=by have:=e.1.symm.trans aN;injection this
                       rw [List.map_cons,List.map_cons,bd iF (fun y a1=>eb y (List.mem_cons_of_mem _ a1)) e.2];unfold WideElems.rg;rw [aZ,agC];rfl
                  exact bn am.toList aI Ff bK
                 have vP:(intKeys (.map ((am.toList.map (WideElems.rg P cw (fun _=>some ((.nil:DataW Unit),[])))).foldr DataW.insert []):DataW Unit)).Perm aI:=by have:=(WideShapes.sorted_perm (am.toList.map (WideElems.rg P cw (fun _=>some ((.nil:DataW Unit),[]))))).map (fun p=>intOf p.1);rw [afh] at this;exact this
                 have b':Maps.size (.map ((am.toList.map (WideElems.rg P cw (fun _=>some ((.nil:DataW Unit),[])))).foldr DataW.insert []):DataW Unit)=aI.length:=by rw [Maps.size_eq,length_sorted,List.length_map,Array.length_toList,Sh]
                 have aT:=(Array.getElem?_eq_some_iff.1 qZ).1;have aeH:w.cell? ⟨p.aW,0,none⟩=some (.map (some zA.aW)):=by simp only [World.cell?,qZ];rw [<-vX];exact Array.getElem?_eq_getElem yB
                 have call:=C p.aW zA.aW am.size _ _ w aT aeH hE (by rw [b',yM,yO];omega) (by rw [b',yM];omega);rw [show p.base+0=0 from by rw [nS]];refine call.mono fun e w' q=>?_;obtain ⟨v0,e2,rfl,ao,ax,aL,bY⟩:=q;have gY:e2.Perm aI:=ao.trans vP;rw [ana gY] at ax;have BD:e2.length=(eO aI).length:=by rw [gY.length_eq,(uR aI).length_eq]
                 split at he
                 . rename_i Fh;have:e2=[]:=by
                    rw [Fh] at BD;exact List.eq_nil_of_length_eq_zero BD
                   cases he;rw [aL.2 this];exact ⟨E,_,rfl,fun _ _ q=>q,by simp only [Rel],s.below bY⟩
                 . rename_i x l yW;rw [yW] at BD ax;cases wb:j6 h (uh (x::l)) 1 false with
                   | none=>rw [wb] at he;cases he
                   | some aa=>
                     rw [wb] at he;simp only [a7.val.injEq] at he;obtain ⟨rfl,rfl⟩:=he;obtain ⟨bD,b3⟩:=ax;rcases b3 with ⟨_,b3⟩ | ⟨nP,cap,cur,rfl,b3,cc,eJ,dZ,dI,eg⟩
                     . rw [BD] at b3;cases b3
                     . unfold j6 at wb;obtain ⟨aC,wb⟩:=ey wb;simp only [Bool.and_eq_true,Nat.ble_eq] at aC;simp only [Option.some.injEq] at wb;subst wb;have dN:E.put (aj h.next) ⟨nP,0,cap⟩ (aj h.next)=some ⟨nP,0,cap⟩:=by unfold Env.put;rw [if_pos rfl]
                       have hle:E.le (E.put (aj h.next) ⟨nP,0,cap⟩):=Env.lP (s.fresh h.next (Nat.le_refl _));refine ⟨_,_,rfl,hle,?_,s.add (p:=⟨nP,0,cap⟩) bY.size (fun j a6 _=>bY.block j a6) (Nat.le_trans s.frame.size b3) (fun bI ep hD nY eG=>?_) bY.os bY.tape bY.output (fun _ _ _ e=>by injection e with _ _ bJ;omega) ?_⟩
                       . simp only [Rel];exact ⟨_,dN,by simp only [Nat.zero_add];omega,by simp only [Nat.add_zero,Nat.sub_zero,BD]⟩
                       . have:=alE s hD nY;simp only at eG;omega
                       . have hh:=ED (bh.mono hle _ _ (TC E (x::l))) aC.1 (cur.toList.drop (e2.length * 1)).toArray;have aeN:((x::l).map encZ).toArray++(cur.toList.drop (e2.length * 1)).toArray=cur:=by
                          rw [<-eg,<-Array.toList_inj];simp
                         rw [aeN] at hh;exact ⟨aC.1,⟨nP,0,cap⟩,cur,cw,(0,0),dN,Nat.le_trans s.frame.size b3,cc,.inr (Nat.le_refl _),fun _=>rfl,fun _=>by simp only;omega,hh⟩
           . cases he
         . cases he
     . cases he
end
end Go.Proofs.YthemdhlheglhoaaGreatDoor.aY
