/- The abstract machine and its walks (a verified interpreter of the model's code: plain definitions and lemmas, no condition). Printed by a program from longer texts: names made short. -/
import Derived.Test.YthemdhlheglhoaaGreatDoorM4
import Derived.Shelf.SlIter.Sorted
import Derived.Shelf.SlIter.Nil
import Derived.StringKeys
import Derived.WideShapes
import Derived.Lib.ItoaNum
import Derived.Lib.Join
import Derived.Shelf.SlIterI.Sorted
import Derived.Shelf.SlIterI.Nil
set_option linter.unusedSectionVars false
set_option linter.unusedSimpArgs false
set_option linter.unusedVariables false
namespace Go.Proofs.YthemdhlheglhoaaGreatDoor.a6
variable [Lay]
open Go Go.RowKit
end Go.Proofs.YthemdhlheglhoaaGreatDoor.a6
namespace Go.Proofs.YthemdhlheglhoaaGreatDoor.a6
variable [Lay]
open Go Go.RowKit Go.Maps Go.Sort Go.Shelf
open Go.Proofs (encStr)
def lM (clock:Nat):Nat→List cx→Bool
 | _,[]=>true
 | bH,m::ms=>Nat.ble bH m.born&&Nat.blt m.born clock&&lM clock (m.born+1) ms
theorem Ib {clock:Nat}:∀{bH:Nat} {es:List cx},lM clock bH es=true→(∀n ∈ es.map (·.born),bH≤n∧n<clock)∧(es.map (·.born)).Nodup
 | bH,[],_=>⟨by simp,by simp⟩
 | bH,m::ms,h=>by
   simp only [lM,Bool.and_eq_true,Nat.ble_eq,Nat.blt_eq] at h
   obtain ⟨g1,g2⟩:=Ib h.2
   refine ⟨fun n aV=>?_,?_⟩
   · rw [List.map_cons] at aV
     rcases List.mem_cons.1 aV with rfl | aV
     · exact h.1
     · have:=g1 n aV
       omega
   · rw [List.map_cons]
     refine List.nodup_cons.2 ⟨fun q=>?_,g2⟩
     have:=g1 _ q
     omega
theorem acv {ar:Fr} {E:Env} {h:af} {w:World} (s:aY ar E h w) {b:aO} {q:hJ} (aS:(h.get b).own=true) (az:E b=some q):q.a8<w.heap.size:=by
 have ah:=s.at az
 cases aE:h.get b with
 | dead=>rw [aE] at aS;cases aS
 | view n cs=>rw [aE] at aS;cases aS
 | cells n cs cl st=>rw [aE] at ah;obtain ⟨_,dX,c,el,bK,e,_,bc,_⟩:=ah;rw [e] at az;cases az;exact (Array.getElem?_eq_some_iff.1 bc).1
 | iter st pos=>rw [aE] at ah;obtain ⟨dX,e,_,_,bc⟩:=ah;rw [e] at az;cases az;exact (Array.getElem?_eq_some_iff.1 bc).1
 | mp es clock=>rw [aE] at ah;obtain ⟨dX,a,e,_,bc,_⟩:=ah;rw [e] at az;cases az;exact (Array.getElem?_eq_some_iff.1 bc).1
 | cU l=>rw [aE] at ah;obtain ⟨dX,o,e,_,bc,_⟩:=ah;rw [e] at az;cases az;exact (Array.getElem?_eq_some_iff.1 bc).1
 | eE=>rw [aE] at ah;obtain ⟨dX,e,_,bc⟩:=ah;rw [e] at az;cases az;exact (Array.getElem?_eq_some_iff.1 bc).1
 | hU es=>rw [aE] at ah;obtain ⟨dX,a,c,l,e,_,bc,_⟩:=ah;rw [e] at az;cases az;exact (Array.getElem?_eq_some_iff.1 bc).1
 | hT src since seen last=>rw [aE] at ah;obtain ⟨dX,m,a,e,_,_,bc,_⟩:=ah;rw [e] at az;cases az;exact (Array.getElem?_eq_some_iff.1 bc).1
end Go.Proofs.YthemdhlheglhoaaGreatDoor.a6
namespace Go.Proofs.YthemdhlheglhoaaGreatDoor.a6
variable [Lay]
open Go Go.RowKit
noncomputable def sG (cs:T V) (off:Nat):Nat→Option (List (List UInt8))
 | 0=>some []
 | n+1=>(match T.get .bad (aq off) cs with
   | .str s=>(match sG cs (off+1) n with
     | some l=>some (s::l)
     | none=>none)
   | _=>none)
def Og (r:List UInt8) (h:af):aU:=bif Nat.ble r.length 1000000 then .val (.str r) h else .fail
noncomputable def zY (h:af) (b:aO) (off len:Nat) (sep:List UInt8):aU:=
 match h.get b with
 | .cells n cs _ _=>bif Nat.ble (off+len) n&&Nat.ble len 1000000 then (match sG cs off len with
   | some l=>Og (Lib.join l sep) h
   | none=>.fail) else .fail
 | _=>.fail
noncomputable def Fs:s6:=⟨fun args h=>match args with
 | [x,y]=>(match y with
   | .str sep=>(match x with
     | .b6=>.val (.str []) h
     | .slice b off len _=>zY h b off len sep
     | .ef b off len _=>zY h b off len sep
     | _=>.fail)
   | _=>.fail)
 | _=>.fail⟩
structure BB (P:Program) (f:FuncId):Prop where
 many:∀(vP o c:Nat) (xs:List ByteArray) (sep:ByteArray) (w:World),(∀(j:Nat) x,xs[j]? =some x→w.cell? ⟨vP,o+j,none⟩=some (.string x))→vP<w.heap.size→xs.length≤140737488355328→xs.length≤c→
  (Lib.join (xs.map (·.data.toList)) sep.data.toList).length≤140737488355328→
  Calls P f #[.slice (some ⟨vP,o,none⟩) xs.length c,.string sep] w fun e aj=>e=.returned (.string ⟨(Lib.join (xs.map (·.data.toList)) sep.data.toList).toArray⟩)∧Below w.heap.size w aj
 abO:∀(a:Option Addr) (c:Nat) (sep:ByteArray) (w:World),Calls P f #[.slice a 0 c,.string sep] w fun e aj=>e=.returned (.string ⟨#[]⟩)∧aj=w
theorem Oh {cs:T V}:∀{n off:Nat} {l:List (List UInt8)},sG cs off n=some l→l.length=n∧∀j s,l[j]? =some s→T.get .bad (aq (off+j)) cs=.str s
 | 0,off,l,h=>by
   simp only [sG,Option.some.injEq] at h
   subst h
   exact ⟨rfl,fun j s h=>by simp at h⟩
 | n+1,off,l,h=>by
   simp only [sG] at h
   split at h
   case h_2=>cases h
   rename_i s aQ
   cases aG:sG cs (off+1) n with
   | none=>rw [aG] at h;cases h
   | some dD=>
     rw [aG] at h
     simp only [Option.some.injEq] at h
     subst h
     obtain ⟨g1,g2⟩:=Oh aG
     refine ⟨by simp [g1],fun j t aA=>?_⟩
     cases j with
     | zero=>
       simp only [List.getElem?_cons_zero,Option.some.injEq] at aA
       subst aA
       exact aQ
     | succ j=>
       have:=g2 j t (by simpa using aA)
       rw [show off + (j+1)=off+1+j from by omega]
       exact this
theorem Ls {P:Program} {f:FuncId} (K:BB P f) {h ab:af} {b:aO} {off len:Nat} {sep:List UInt8} {v:V} (he:zY h b off len sep=.val v ab) {ar:Fr} {E:Env} {w:World} (s:aY ar E h w) {p:hJ} (ag:E b=some p) {c:Nat} (aF:len≤c):
 Calls P f #[.slice (some ⟨p.a8,p.base+off,none⟩) len c,.string ⟨⟨sep⟩⟩] w fun e aj=>∃ao x,e=.returned x∧E.le ao∧Rel ao v x∧aY ar ao ab aj:=by
 unfold zY at he
 split at he
 case h_2=>cases he
 rename_i n cs cl st iw
 obtain ⟨Wx,he⟩:=iq he
 simp only [Bool.and_eq_true,Nat.ble_eq] at Wx
 cases ai:sG cs off len with
 | none=>rw [ai] at he;cases he
 | some L=>
   rw [ai] at he
   simp only [Og] at he
   obtain ⟨W_,he⟩:=iq he
   rw [Nat.ble_eq] at W_
   simp only [aU.val.injEq] at he
   obtain ⟨rfl,rfl⟩:=he
   obtain ⟨g1,g2⟩:=Oh ai
   have ah:=s.at ag
   rw [iw] at ah
   obtain ⟨_,p',II,el,bK,aN,_,nL,_,_,_,wo⟩:=ah
   rw [ag] at aN;cases aN
   have aP:=(Array.getElem?_eq_some_iff.1 nL).1
   have kU:(L.map fun x=>(⟨⟨x⟩⟩:ByteArray)).map (·.data.toList)=L:=by
    rw [List.map_map]
    exact (List.map_congr_left (fun _ _=>rfl)).trans (List.map_id L)
   have cells:∀(j:Nat) (x:ByteArray),(L.map fun x=>(⟨⟨x⟩⟩:ByteArray))[j]? =some x→w.cell? ⟨p.a8,p.base+off+j,none⟩=some (.string x):=by
    intro j x al
    rw [List.getElem?_map] at al
    cases dW:L[j]? with
    | none=>rw [dW] at al;cases al
    | some t=>
      rw [dW] at al
      cases al
      have bB:j<len:=by rw [←g1];exact (List.getElem?_eq_some_iff.1 dW).1
      have b5:p.base+off+j<II.size:=by have:=wo.1;omega
      have aG:=wo.2 (off+j) II[p.base+off+j] (by omega) (by rw [←Nat.add_assoc];exact Array.getElem?_eq_getElem b5)
      rw [g2 j t dW] at aG
      simp only [Rel] at aG
      simp only [World.cell?,nL]
      rw [←aG]
      exact Array.getElem?_eq_getElem b5
   have:=K.many p.a8 (p.base+off) c (L.map fun x=>(⟨⟨x⟩⟩:ByteArray)) ⟨⟨sep⟩⟩ w cells aP (by rw [List.length_map];omega) (by rw [List.length_map];omega) (by rw [kU];show (Lib.join L sep).length≤_;omega)
   rw [kU,List.length_map,g1] at this
   refine this.mono fun e aj q=>?_
   exact ⟨E,_,q.1,fun _ _ q=>q,by simp only [Rel],s.below q.2⟩
theorem YL {P:Program} {f:FuncId} (K:BB P f) {args:List V} {h ab:af} {v:V} (he:Fs.run args h=.val v ab)
 (ar:Fr) (E:Env) (w:World) (xs:List Value) (al:a7 E args xs) (s:aY ar E h w):
 Calls P f xs.toArray w fun e aj=>∃ao x,e=.returned x∧E.le ao∧Rel ao v x∧aY ar ao ab aj:=by
 simp only [Fs] at he
 split at he
 case h_2=>cases he
 rename_i x y
 split at he
 case h_2=>cases he
 rename_i sep
 obtain ⟨X,_,rfl,au,Y,_,rfl,aC,rfl⟩:=al
 simp only [Rel] at aC
 subst aC
 cases x<;>simp only at he<;>first
  | (cases he;done)
  | skip
 · simp only [Rel] at au
   obtain ⟨p,ag,aF,rfl⟩:=au
   exact Ls K he s ag aF
 · simp only [Rel] at au
   obtain ⟨p,ag,aF,rfl⟩:=au
   exact Ls K he s ag (by omega)
 · simp only [aU.val.injEq] at he
   obtain ⟨rfl,rfl⟩:=he
   simp only [Rel] at au
   subst au
   refine (K.abO none 0 ⟨⟨sep⟩⟩ w).mono fun e aj q=>?_
   obtain ⟨au,rfl⟩:=q
   exact ⟨E,_,au,fun _ _ q=>q,by simp only [Rel],s⟩
end Go.Proofs.YthemdhlheglhoaaGreatDoor.a6
namespace Go.Proofs.YthemdhlheglhoaaGreatDoor.a6
variable [Lay]
open Go Go.RowKit Go.Maps Go.Sort Go.Shelf
theorem aaR (a b:Int):Int.leB a b=decide (a≤b):=l9 a b
theorem US (a b:Int):Int.fs a b=decide (a=b):=by rw [jK];rfl
variable (k:IntKind) (a b:Int)
def uq (x:Int):List Int→List Int
 | []=>[x]
 | y::l=>bif Int.leB x y then x::y::l else y::uq x l
def sE:List Int→List Int
 | []=>[]
 | x::l=>uq x (sE l)
theorem Fl (x:Int):∀l,(uq x l).Perm (x::l)
 | []=>List.Perm.refl _
 | y::l=>by
   simp only [uq]
   cases Int.leB x y with
   | true=>exact List.Perm.refl _
   | false=>exact ((Fl x l).cons y).trans (List.Perm.swap x y l)
theorem GV:∀l,(sE l).Perm l
 | []=>List.Perm.refl _
 | x::l=>(Fl x _).trans ((GV l).cons x)
theorem Lk (x:Int):∀l:List Int,l.Pairwise (·≤·)→(uq x l).Pairwise (·≤·)
 | [],_=>List.pairwise_singleton _ _
 | y::l,h=>by
   simp only [uq,aaR]
   by_cases uk:x≤y
   · rw [decide_eq_true uk]
     refine List.pairwise_cons.2 ⟨fun z bm=>?_,h⟩
     rcases List.mem_cons.1 bm with rfl | bm
     · exact uk
     · exact Int.le_trans uk ((List.pairwise_cons.1 h).1 z bm)
   · rw [decide_eq_false uk]
     refine List.pairwise_cons.2 ⟨fun z bm=>?_,Lk x l (List.pairwise_cons.1 h).2⟩
     rcases List.mem_cons.1 ((Fl x l).mem_iff.1 bm) with rfl | bm
     · omega
     · exact (List.pairwise_cons.1 h).1 z bm
theorem N7:∀l,(sE l).Pairwise (·≤·)
 | []=>.nil
 | x::l=>Lk x _ (N7 l)
theorem ad7 {l m:List Int} (h:m.Perm l):m.mergeSort (fun x y=>decide (x≤y))=sE l:=by
 have ag:(m.mergeSort (fun x y=>decide (x≤y))).Perm (sE l):=((List.mergeSort_perm m _).trans h).trans (GV l).symm
 have aQ:(m.mergeSort (fun x y=>decide (x≤y))).Pairwise (·≤·):=by
  have:=List.pairwise_mergeSort (le:=fun x y:Int=>decide (x≤y)) (fun a b c aa ae=>by simp only [decide_eq_true_eq] at *;omega) (fun a b=>by simp only [Bool.or_eq_true,decide_eq_true_eq];omega) m
  exact this.imp (fun h=>by simpa using h)
 exact ag.eq_of_pairwise (fun a b _ _ aa ae=>Int.le_antisymm aa ae) aQ (N7 l)
def mZ:List cx→Option (List Int)
 | []=>some []
 | m::ms=>match m.k with
   | .int .i64 n=>(match mZ ms with
     | some l=>some (n::l)
     | none=>none)
   | _=>none
def Ah (x:Int):List Int→Bool
 | []=>false
 | y::l=>Int.fs x y||Ah x l
def xl:List Int→Bool
 | []=>true
 | x::l=>!Ah x l&&xl l
def xQ:List Int→Bool
 | []=>true
 | x::l=>(Lit.int .i64 x).wf&&xQ l
def zU (l:List Int):List V:=l.map (V.int .i64)
noncomputable def N9 (g:FuncId) (vM:aO) (h:af):aU:=
 match h.get vM with
 | .cells n cs 0 _=>bif Nat.blt 0 n then (match T.get .bad (aq 0) cs with
   | .map b=>(match h.get b with
     | .mp es clock=>(match mZ es with
       | some aJ=>bif xl aJ&&lM clock 0 es&&xQ aJ&&Nat.ble es.length 1000000 then (match sE aJ with
          | []=>.val .b6 h
          | x::l=>(match ic h (zU (x::l)) 1 false with
            | some ab=>.val (.ef (aq h.next) 0 (x::l).length 0) ab
            | none=>.fail)) else .fail
       | none=>.fail)
     | _=>.fail)
   | _=>.fail) else .fail
 | _=>.fail
noncomputable def GW (g:FuncId):s6:=
 ⟨fun args h=>match args with
   | [.func f [.ptr vM 0]]=>bif Nat.beq f g then N9 g vM h else .fail
   | _=>.fail⟩
theorem Lw:∀{es:List cx} {aJ:List Int},mZ es=some aJ→aJ.length=es.length
 | [],aJ,h=>by simp only [mZ,Option.some.injEq] at h;subst h;rfl
 | m::ms,aJ,h=>by
   unfold mZ at h
   split at h
   · cases az:mZ ms with
     | none=>rw [az] at h;cases h
     | some l=>
       rw [az] at h
       simp only [Option.some.injEq] at h
       subst h
       simp [Lw az]
   · cases h
theorem Lx {E:Env}:∀{es:List cx} {aJ:List Int} {l:List MapEntry},mZ es=some aJ→dQ E es l→l.map (·.key)=aJ.map (Value.int .i64)∧l.map (·.born)=es.map (·.born)
 | [],aJ,l,h,aG=>by
   simp only [mZ,Option.some.injEq] at h
   simp only [dQ] at aG
   subst h aG
   exact ⟨rfl,rfl⟩
 | m::ms,aJ,l,h,aG=>by
   simp only [dQ] at aG
   obtain ⟨e,h6,rfl,aa,ae,aI,bo⟩:=aG
   unfold mZ at h
   split at h
   · rename_i n ax
     cases az:mZ ms with
     | none=>rw [az] at h;cases h
     | some l=>
       rw [az] at h
       simp only [Option.some.injEq] at h
       subst h
       obtain ⟨g1,g2⟩:=Lx az bo
       rw [ax] at aa
       simp only [Rel] at aa
       simp only [List.map_cons,g1,g2,aa,aI,and_self]
   · cases h
theorem Mj {x:Int}:∀{l:List Int},Ah x l=false→x ∉ l
 | [],_=>by simp
 | y::l,h=>by
   simp only [Ah,Bool.or_eq_false_iff] at h
   have aa:¬x=y:=by
    intro q
    have:=h.1
    rw [US,decide_eq_false_iff_not] at this
    exact this q
   rw [List.mem_cons]
   rintro (q | q)
   · exact aa q
   · exact Mj h.2 q
theorem Mn:∀{l:List Int},xl l=true→l.Nodup
 | [],_=>List.nodup_nil
 | x::l,h=>by
   simp only [xl,Bool.and_eq_true,Bool.not_eq_true'] at h
   exact List.nodup_cons.2 ⟨Mj h.1,Mn h.2⟩
theorem OO:∀{l:List Int},xQ l=true→∀x ∈ l,(Lit.int .i64 x).wf=true
 | [],_,x,al=>by cases al
 | y::l,h,x,al=>by
   simp only [xQ,Bool.and_eq_true] at h
   rcases List.mem_cons.1 al with rfl | al
   · exact h.1
   · exact OO h.2 x al
theorem abM {l:List Int} (h:l.Nodup):(l.map (Value.int .i64)).Nodup:=by
 induction l with
 | nil=>exact List.nodup_nil
 | cons x l bh=>
   obtain ⟨aa,ae⟩:=List.nodup_cons.1 h
   rw [List.map_cons]
   refine List.nodup_cons.2 ⟨fun q=>?_,bh ae⟩
   obtain ⟨y,aZ,e⟩:=List.mem_map.1 q
   cases e
   exact aa aZ
def HL (P:Program) (f g:FuncId) (b':TypeId):Prop:=
 ∀(qT b FP:Nat) (pB:DataW Unit) (R:Value→Option (DataW Unit × List MemPlace)) (w:World),qT<w.heap.size→w.cell? ⟨qT,0,none⟩=some (.map (some b))→w.ownsMap P b' R b FP pB→Maps.size pB≤maxLen→Maps.size pB * 8≤140737488355328→
  Calls P f #[.func (.func g) #[] #[.pointer (some ⟨qT,0,none⟩)]] w fun e aj=>∃(v:Value) (ey:List Int),e=.returned v∧ey.Perm (intKeys pB)∧
   aj.ownsRow w.heap.size b' 1 v ey.length ((ey.mergeSort (fun x y=>decide (x≤y))).map encZ)∧(v=.slice none 0 0↔ey=[])∧Below w.heap.size w aj
theorem Lm (E:Env):∀l:List Int,a7 E (zU l) (l.map encZ)
 | []=>rfl
 | x::l=>by
   simp only [zU,List.map_cons,a7]
   exact ⟨_,_,rfl,by simp only [Rel],Lm E l⟩
theorem ad' {P:Program} {f g:FuncId} {b':TypeId} (zv:g≠c4) (lp:P.underlying b'=some (.int .i64)) (C:HL P f g b') {args:List V} {h ab:af} {v:V} (he:(GW g).run args h=.val v ab)
 (ar:Fr) (E:Env) (w:World) (xs:List Value) (al:a7 E args xs) (s:aY ar E h w):
 Calls P f xs.toArray w fun e aj=>∃ao x,e=.returned x∧E.le ao∧Rel ao v x∧aY ar ao ab aj:=by
 match args,he,al with
 | [.func tr [.ptr vM 0]],he,al=>
   simp only [GW] at he
   cases Ee:Nat.beq tr g with
   | false=>rw [Ee] at he;cases he
   | true=>
     rw [Ee] at he
     simp only [cond_true] at he
     have WW:tr=g:=Nat.eq_of_beq_eq_true Ee
     subst WW
     simp only [a7] at al
     obtain ⟨y,_,rfl,aZ,rfl⟩:=al
     simp only [Rel] at aZ
     obtain ⟨_,a,rfl,q,_,br,az,rfl⟩ | ⟨Yg,_⟩:=aZ
     rotate_left
     · exact absurd Yg zv
     obtain ⟨p,ag,rfl⟩:=az
     have Wk:a=#[.pointer (some ⟨p.a8,p.base+0,none⟩)]:=by
      rw [←Array.toList_inj,br]
     subst Wk
     unfold N9 at he
     split at he
     · rename_i n cs st gZ
       have ll:=s.base vM p n cs st gZ ag
       have iw:=s.at ag
       rw [gZ] at iw
       obtain ⟨_,p',c,el,bK,aN,_,nL,_,_,_,wo⟩:=iw
       rw [ag] at aN;cases aN
       cases aV:Nat.blt 0 n with
       | false=>rw [aV] at he;cases he
       | true=>
         rw [aV] at he
         simp only [cond_true] at he
         rw [Nat.blt_eq] at aV
         split at he
         · rename_i b kU
           have tI:0<c.size:=by have:=wo.1;omega
           have iA:=wo.2 0 c[0] aV (by rw [ll];exact Array.getElem?_eq_getElem tI)
           rw [kU] at iA
           simp only [Rel] at iA
           obtain ⟨uN,KL,rK⟩:=iA
           split at he
           · rename_i es clock lU
             have KD:=s.at KL
             rw [lU] at KD
             obtain ⟨agG,am,bf,_,Xn,nP⟩:=KD
             rw [KL] at bf;cases bf
             cases nO:mZ es with
             | none=>rw [nO] at he;cases he
             | some aJ=>
               rw [nO] at he
               simp only at he
               cases zu:(xl aJ&&lM clock 0 es&&xQ aJ&&Nat.ble es.length 1000000) with
               | false=>rw [zu] at he;cases he
               | true=>
                 rw [zu] at he
                 simp only [cond_true] at he
                 simp only [Bool.and_eq_true,Nat.ble_eq] at zu
                 obtain ⟨⟨⟨g1,g2⟩,g3⟩,g4⟩:=zu
                 obtain ⟨bL,b0⟩:=Lx nO nP
                 have Er:=Lw nO
                 have Ke:am.size=aJ.length:=by
                  have:=congrArg List.length bL
                  simpa using this
                 obtain ⟨ct,cf⟩:=Ib g2
                 have tR:maxLen=9223372036854775807:=by decide
                 have XW:MapKept.Stamped am clock:=by
                  refine ⟨fun x al=>?_,by rw [b0];exact cf,by rw [bL];exact abM (Mn g1)⟩
                  have:x.born ∈ es.map (·.born):=by rw [←b0];exact List.mem_map_of_mem al
                  exact (ct _ this).2
                 have Xa:∀x ∈ am.toList,∃n ∈ aJ,x.key=.int .i64 n:=by
                  intro x al
                  have:x.key ∈ am.toList.map (·.key):=List.mem_map_of_mem al
                  rw [bL] at this
                  obtain ⟨n,aV,e⟩:=List.mem_map.1 this
                  exact ⟨n,aV,e.symm⟩
                 have zG:∀x ∈ am.toList,∃n,x.key=.int .i64 n∧WideElems.rd P b' (fun _=>some ((.nil:DataW Unit),[])) x=some (.int .i64 n,.nil):=by
                  intro x al
                  obtain ⟨n,aV,e⟩:=Xa x al
                  refine ⟨n,e,?_⟩
                  unfold WideElems.rd
                  rw [e,Maps.keyOf_int_mk lp (OO g3 n aV)]
                  rfl
                 have WX:WideElems.Fit P b' (fun _=>some ((.nil:DataW Unit),[])) am clock:=⟨by rw [Ke,Er,tR];omega,XW,fun x al=>by obtain ⟨n,_,e⟩:=zG x al;exact ⟨_,e⟩⟩
                 have gk:w.ownsMap P b' (fun _=>some ((.nil:DataW Unit),[])) uN.a8 am.size (.map ((am.toList.map (WideElems.rg P b' (fun _=>some ((.nil:DataW Unit),[])))).foldr DataW.insert [])):=⟨am,clock,Xn,WX,Nat.le_refl _,rfl⟩
                 have Xb:(am.toList.map (WideElems.rg P b' (fun _=>some ((.nil:DataW Unit),[])))).map (fun p=>intOf p.1)=aJ:=by
                  have bm:∀(l:List MapEntry) (h2:List Int),(∀x ∈ l,∃n,x.key=.int .i64 n∧WideElems.rd P b' (fun _=>some ((.nil:DataW Unit),[])) x=some (.int .i64 n,.nil))→l.map (·.key)=h2.map (Value.int .i64)→(l.map (WideElems.rg P b' (fun _=>some ((.nil:DataW Unit),[])))).map (fun p=>intOf p.1)=h2:=by
                   intro l
                   induction l with
                   | nil=>
                     intro h2 _ e
                     cases h2 with
                     | nil=>rfl
                     | cons z h2=>simp at e
                   | cons x l bh=>
                     intro h2 dL e
                     cases h2 with
                     | nil=>simp at e
                     | cons z h2=>
                       simp only [List.map_cons,List.cons.injEq] at e
                       obtain ⟨n,aN,bf⟩:=dL x (List.mem_cons_self ..)
                       have Yj:z=n:=by
                        have:=e.1.symm.trans aN
                        injection this
                       rw [List.map_cons,List.map_cons,bh h2 (fun y aZ=>dL y (List.mem_cons_of_mem _ aZ)) e.2]
                       unfold WideElems.rg
                       rw [bf,Yj]
                       rfl
                  exact bm am.toList aJ zG bL
                 have rG:(intKeys (.map ((am.toList.map (WideElems.rg P b' (fun _=>some ((.nil:DataW Unit),[])))).foldr DataW.insert []):DataW Unit)).Perm aJ:=by
                  have:=(WideShapes.sorted_perm (am.toList.map (WideElems.rg P b' (fun _=>some ((.nil:DataW Unit),[]))))).map (fun p=>intOf p.1)
                  rw [Xb] at this
                  exact this
                 have b5:Maps.size (.map ((am.toList.map (WideElems.rg P b' (fun _=>some ((.nil:DataW Unit),[])))).foldr DataW.insert []):DataW Unit)=aJ.length:=by
                  rw [Maps.size_eq,length_sorted,List.length_map,Array.length_toList,Ke]
                 have aP:=(Array.getElem?_eq_some_iff.1 nL).1
                 have Wz:w.cell? ⟨p.a8,0,none⟩=some (.map (some uN.a8)):=by
                  simp only [World.cell?,nL]
                  rw [←rK]
                  exact Array.getElem?_eq_getElem tI
                 have call:=C p.a8 uN.a8 am.size _ _ w aP Wz gk (by rw [b5,Er,tR];omega) (by rw [b5,Er];omega)
                 rw [show p.base+0=0 from by rw [ll]]
                 refine call.mono fun e aj q=>?_
                 obtain ⟨v0,ey,rfl,au,aC,aM,bG⟩:=q
                 have fE:ey.Perm aJ:=au.trans rG
                 rw [ad7 fE] at aC
                 have wV:ey.length=(sE aJ).length:=by rw [fE.length_eq,(GV aJ).length_eq]
                 split at he
                 · rename_i kk
                   have:ey=[]:=by
                    rw [kk] at wV
                    exact List.eq_nil_of_length_eq_zero wV
                   cases he
                   rw [aM.2 this]
                   exact ⟨E,_,rfl,fun _ _ q=>q,by simp only [Rel],s.below bG⟩
                 · rename_i x l wT
                   rw [wT] at wV aC
                   cases rR:ic h (zU (x::l)) 1 false with
                   | none=>rw [rR] at he;cases he
                   | some aa=>
                     rw [rR] at he
                     simp only [aU.val.injEq] at he
                     obtain ⟨rfl,rfl⟩:=he
                     obtain ⟨bw,cb⟩:=aC
                     rcases cb with ⟨_,cb⟩ | ⟨wg,cap,cur,rfl,cb,bS,cP,dK,dw,hd⟩
                     · rw [wV] at cb;cases cb
                     · unfold ic at rR
                       obtain ⟨aF,rR⟩:=dR rR
                       simp only [Bool.and_eq_true,Nat.ble_eq] at aF
                       simp only [Option.some.injEq] at rR
                       subst rR
                       have dt:E.put (aq h.next) ⟨wg,0,cap⟩ (aq h.next)=some ⟨wg,0,cap⟩:=by unfold Env.put;rw [if_pos rfl]
                       have hle:E.le (E.put (aq h.next) ⟨wg,0,cap⟩):=Env.j0 (s.fresh h.next (Nat.le_refl _))
                       refine ⟨_,_,rfl,hle,?_,s.add (p:=⟨wg,0,cap⟩) bG.size (fun j bB _=>bG.block j bB) (Nat.le_trans s.frame.size cb) (fun bC dX gj mS d'=>?_) bG.os bG.tape bG.output (fun _ _ _ e=>by injection e with _ _ bT;omega) ?_⟩
                       · simp only [Rel]
                         exact ⟨_,dt,by simp only [Nat.zero_add];omega,by simp only [Nat.add_zero,Nat.sub_zero,wV]⟩
                       · have:=acv s gj mS
                         simp only at d'
                         omega
                       · have eW:=za (a7.mono hle _ _ (Lm E (x::l))) aF.1 (cur.toList.drop (ey.length * 1)).toArray
                         have WG:((x::l).map encZ).toArray++(cur.toList.drop (ey.length * 1)).toArray=cur:=by
                          rw [←hd,←Array.toList_inj]
                          simp
                         rw [WG] at eW
                         exact ⟨aF.1,⟨wg,0,cap⟩,cur,b',(0,0),dt,Nat.le_trans s.frame.size cb,bS,.inr (Nat.le_refl _),fun _=>rfl,fun _=>by simp only;omega,eW⟩
           · cases he
         · cases he
     · cases he
end Go.Proofs.YthemdhlheglhoaaGreatDoor.a6
