/- The chapter's functions, walked by the abstract machine: plain lemmas, no condition. Printed by a program from longer texts: names made short. -/
import Derived.Test.YtkehcalakofigaaGreatDoorM5
import Derived.Test.YtkehcalakofigaaGreatDoorM3
import Derived.Test.YtkehcalakofigaaGreatDoorM4
import Derived.Shelf.Strings.Search3
import Derived.Shelf.SlIter.Nil
import Derived.Shelf.SortM.Plain
import Derived.Shelf.SortM.SortNone
import Derived.MakeChecks
import Derived.Shelf.Vars
import Derived.Lay
import Derived.LaidLaws
import Derived.Lib.LaidTab
import Derived.Lib.LaidU8T
import Derived.Test.YtkehcalakofigaaGreatDoorRows
set_option linter.unusedSectionVars false
set_option linter.unusedSimpArgs false
set_option linter.unusedVariables false
namespace Go.Proofs.YtkehcalakofigaaGreatDoor
open Go a1
inductive a' where
 | mk (k n a:Int) (s:List UInt8) (l:List a')
namespace a'
def k:a'→Int | mk k _ _ _ _=>k
def n:a'→Int | mk _ n _ _ _=>n
def a:a'→Int | mk _ _ a _ _=>a
def s:a'→List UInt8 | mk _ _ _ s _=>s
def l:a'→List a' | mk _ _ _ _ l=>l
end a'
mutual
def a'.size:a'→Nat
 | .mk _ _ _ _ l=>1+ek l
def ek:List a'→Nat
 | []=>0
 | t::l=>t.size+ek l
end
theorem nC {t:a'}:∀{l:List a'},t ∈ l→t.size≤ek l
 | [],h=>by cases h
 | u::l,h=>by
   simp only [ek]
   rcases List.mem_cons.1 h with rfl | h
   · omega
   · have:=nC h;omega
theorem rU {t u:a'} (h:u ∈ t.l):u.size<t.size:=by
 cases t with
 | mk k n a s l=>have:=nC h;simp only [a'.size];simp only [a'.l] at this;omega
theorem wK:∀l:List a',l.length≤ek l
 | []=>Nat.le_refl _
 | t::l=>by have:=wK l;have:1≤t.size:=by (cases t;simp only [a'.size];omega)
            simp only [ek,List.length_cons];omega
theorem rV (t:a'):1≤t.size:=by cases t;simp only [a'.size];omega
mutual
def a'.enc:a'→List D
 | .mk k n a s l=>[.i .i64 k,.i .i64 n,.i .i64 a,.s s,.l 5 (zB l)]
def zB:List a'→List (List D)
 | []=>[]
 | t::l=>t.enc::zB l
end
theorem Lt:∀l:List a',zB l=l.map a'.enc
 | []=>rfl
 | t::l=>by rw [zB,Lt l,List.map_cons]
theorem E3 (t:a'):t.enc=[.i .i64 t.k,.i .i64 t.n,.i .i64 t.a,.s t.s,.l 5 (t.l.map a'.enc)]:=by
 cases t with
 | mk k n a s l=>simp only [a'.enc,Lt,a'.k,a'.n,a'.a,a'.s,a'.l]
mutual
def a'.pre:a'→List a'
 | .mk k n a s l=>.mk k n a s l::kz l
def kz:List a'→List a'
 | []=>[]
 | t::l=>t.pre++kz l
end
theorem aax (t:a'):t.pre=t::kz t.l:=by cases t;simp only [a'.pre,a'.l]
theorem LF:∀l m:List a',kz (l++m)=kz l++kz m
 | [],m=>rfl
 | t::l,m=>by rw [List.cons_append,kz,kz,LF l m,List.append_assoc]
mutual
theorem LC:∀t:a',t.pre.length=t.size
 | .mk k n a s l=>by rw [a'.pre,a'.size,List.length_cons,LG l,Nat.add_comm]
theorem LG:∀l:List a',(kz l).length=ek l
 | []=>rfl
 | t::l=>by rw [kz,ek,List.length_append,LC t,LG l]
end
mutual
def a'.deep:a'→Nat
 | .mk _ _ _ _ l=>hx l+1
def hx:List a'→Nat
 | []=>0
 | t::l=>max t.deep (hx l)
end
section
variable {F:aO→Prop} {h:ae} [Lay]
theorem a'.open {t:a'} {ab:List V} (H:ct F h t.enc ab):∃dI,ab=[.int .i64 t.k,.int .i64 t.n,.int .i64 t.a,.str t.s,dI]∧cF F h 5 (t.l.map a'.enc) dI∧t.s.length≤top:=by
 rw [E3] at H
 obtain ⟨_,rfl,H1⟩:=H.int
 obtain ⟨_,rfl,cN⟩:=H1.int
 obtain ⟨_,rfl,Az⟩:=cN.int
 obtain ⟨_,rfl,aQ,AA⟩:=Az.str
 obtain ⟨dI,_,rfl,L,AB⟩:=AA.fH
 obtain rfl:=AB.no
 exact ⟨dI,rfl,L,aQ⟩
theorem a'.nu {l:List a'} {v:V} (H:cF F h 5 (l.map a'.enc) v) {k:IntKind} {i:Nat} (aB:i<l.length):
 ∃b off dI,jS 5 v (.int k i)=some (.ptr b (off+i * 5))∧ct F h l[i].enc [.int .i64 l[i].k,.int .i64 l[i].n,.int .i64 l[i].a,.str l[i].s,dI]∧cF F h 5 (l[i].l.map a'.enc) dI∧
  ∀aa,Ext h aa→mA 5 (aa.get b) (off+i * 5)=some (.agg [.int .i64 l[i].k,.int .i64 l[i].n,.int .i64 l[i].a,.str l[i].s,dI]):=by
 obtain ⟨b,off,u,aE,aM,b9,gD,_⟩:=H.at (k:=k) (i:=i) (by rw [List.length_map];exact aB)
 rw [List.getElem_map] at aM
 obtain ⟨dI,rfl,L,_⟩:=a'.open aM
 exact ⟨b,off,dI,aE,aM,L,gD⟩
end
end Go.Proofs.YtkehcalakofigaaGreatDoor
namespace Go.Proofs.YtkehcalakofigaaGreatDoor
open Go a1 Go.RowKit
theorem uW {w:World} {p:Addr} {v:Value} (h:w.cell? p=some v):p.block<w.heap.size:=by
 unfold World.cell? at h
 by_cases q:p.block<w.heap.size
 · exact q
 · rw [Array.getElem?_eq_none (by omega)] at h
   cases h
def sd (w:World) (g:Nat):Prop:=∃aU,w.cell? ⟨g,0,none⟩=some aU∧(aU=.nilIface∨∃acf Ls,aU=.iface acf Ls)
theorem sd.fc {w al:World} {g:Nat} (h:sd w g) (af:Below w.heap.size w al):sd al g:=by
 obtain ⟨aU,U,ad⟩:=h
 exact ⟨aU,by rw [af.cell (uW U)];exact U,ad⟩
structure AT (w:World):Prop where
 MY:Lib.Utf8Tabs 0 1 w
 maxLen:∃m,w.cell? ⟨2,0,none⟩=some (.int .i64 m)
 Ib:sd w 4
noncomputable instance lay:Lay where
 ok w:=AT w
 fc:=by
  intro w al h af
  refine ⟨?_,?_,h.Ib.fc af⟩
  · obtain ⟨U,ad⟩:=h.MY
    refine ⟨fun c ar=>?_,fun i aB=>?_⟩
    · rw [af.cell (uW (U c ar))]
      exact U c ar
    · obtain ⟨aj,ay⟩:=ad i aB
      rw [af.cell (uW aj),af.cell (uW ay)]
      exact ⟨aj,ay⟩
  · obtain ⟨m,q⟩:=h.maxLen
    exact ⟨m,by rw [af.cell (uW q)];exact q⟩
section
open Go.Shelf
def Tryz.YD:Go.Shelf.Ren:=⟨fun | 144=>120 | 143=>124 | 219=>132 | 217=>103 | 225=>137 | 224=>138 | 267=>139 | 266=>114 | 314=>141 | n=>n,fun | 9=>9 | 4=>4 | 3=>3 | 5=>5 | 46=>80 | 146=>98 | 51=>97 | n=>n,fun | 1=>2 | n=>n⟩
theorem Tryz.YC:Go.Proofs.Lays.n144 Tryz.prog Tryz.YD:={
 mixed:=by kernel_rfl,
 f143:=Tryz.func124.trans (congrArg some (by kernel_rfl)),
 f144:=Tryz.func120.trans (congrArg some (by kernel_rfl)),
 f217:=Tryz.func103.trans (congrArg some (by kernel_rfl)),
 f219:=Tryz.func132.trans (congrArg some (by kernel_rfl)),
 f224:=Tryz.func138.trans (congrArg some (by kernel_rfl)),
 f225:=Tryz.func137.trans (congrArg some (by kernel_rfl)),
 f266:=Tryz.func114.trans (congrArg some (by kernel_rfl)),
 f267:=Tryz.func139.trans (congrArg some (by kernel_rfl)),
 f314:=Tryz.func141.trans (congrArg some (by kernel_rfl)),
 t3:=Tryz.underlying3,
 a3:=Tryz.isAgg3,
 z3:=Tryz.sizeOf3,
 v3:=Tryz.zeroValue3,
 t4:=Tryz.underlying4,
 a4:=Tryz.isAgg4,
 z4:=Tryz.sizeOf4,
 v4:=Tryz.zeroValue4,
 t5:=Tryz.underlying5,
 a5:=Tryz.isAgg5,
 z5:=Tryz.sizeOf5,
 v5:=Tryz.zeroValue5,
 t9:=Tryz.underlying9,
 a9:=Tryz.isAgg9,
 z9:=Tryz.sizeOf9,
 v9:=Tryz.zeroValue9,
 t46:=Tryz.underlying80,
 a46:=Tryz.isAgg80,
 z46:=Tryz.sizeOf80,
 v46:=Tryz.zeroValue80,
 t51:=Tryz.underlying97,
 a51:=Tryz.isAgg97,
 z51:=Tryz.sizeOf97,
 v51:=Tryz.zeroValue97,
 t146:=Tryz.underlying98,
 a146:=Tryz.isAgg98,
 z146:=Tryz.sizeOf98,
 v146:=Tryz.zeroValue98,
 g1:=by kernel_rfl}
def Tryz.Kg:Go.Shelf.Ren:=⟨fun | 7=>44 | 10=>58 | n=>n,fun | 23=>55 | 26=>9 | 3=>4 | 28=>60 | 0=>0 | 27=>59 | 33=>75 | 4=>4 | n=>n,fun | n=>n⟩
theorem Tryz.XK:Go.Proofs.SlLaysZ.n7 Tryz.prog Tryz.Kg where
 mixed:=by kernel_rfl
 f7:=⟨"maps.Keys[map[string]bool,string,bool]",by decide,Tryz.func44.trans (congrArg some (by kernel_rfl))⟩
 f10:=⟨"maps.Keys[map[string]bool,string,bool]$1",by decide,Tryz.func58.trans (congrArg some (by kernel_rfl))⟩
 t0:=Tryz.underlying0
 a0:=Tryz.isAgg0
 z0:=Tryz.sizeOf0
 v0:=Tryz.zeroValue0
 t4:=Tryz.underlying4
 a4:=Tryz.isAgg4
 z4:=Tryz.sizeOf4
 v4:=Tryz.zeroValue4
 t23:=Tryz.underlying55
 a23:=Tryz.isAgg55
 z23:=Tryz.sizeOf55
 v23:=Tryz.zeroValue55
 t26:=Tryz.underlying9
 a26:=Tryz.isAgg9
 z26:=Tryz.sizeOf9
 v26:=Tryz.zeroValue9
 t27:=Tryz.underlying59
 a27:=Tryz.isAgg59
 z27:=Tryz.sizeOf59
 v27:=Tryz.zeroValue59
 t28:=Tryz.underlying60
 a28:=Tryz.isAgg60
 z28:=Tryz.sizeOf60
 v28:=Tryz.zeroValue60
 t33:=Tryz.underlying75
 a33:=Tryz.isAgg75
 z33:=Tryz.sizeOf75
 v33:=Tryz.zeroValue75
def Tryz.Mv:Go.Shelf.Ren:=⟨fun | 6=>43 | 8=>56 | 9=>57 | 11=>68 | 13=>70 | 12=>69 | 23=>89 | 24=>90 | 14=>80 | 15=>81 | 16=>82 | 17=>83 | 18=>84 | 19=>85 | 20=>86 | 21=>87 | 22=>88 | 25=>96 | 26=>97 | 27=>98 | 28=>99 | 29=>100 | 30=>101 | 31=>112 | n=>n,fun | 26=>9 | 28=>60 | 24=>39 | 0=>0 | 3=>3 | 37=>80 | 48=>97 | 50=>100 | 4=>4 | 40=>107 | 39=>106 | 45=>112 | 5=>5 | 9=>9 | 51=>122 | 55=>126 | 57=>131 | 58=>132 | 33=>75 | n=>n,fun | n=>n⟩
theorem Tryz.abQ:Go.Proofs.SlLaysZ.n6 Tryz.prog Tryz.Mv where
 mixed:=by kernel_rfl
 f6:=⟨"slices.Sorted[string]",by decide,Tryz.func43.trans (congrArg some (by kernel_rfl))⟩
 f8:=⟨"slices.Collect[string]",by decide,Tryz.func56.trans (congrArg some (by kernel_rfl))⟩
 f11:=⟨"slices.AppendSeq[[]string,string]",by decide,Tryz.func68.trans (congrArg some (by kernel_rfl))⟩
 t0:=Tryz.underlying0
 a0:=Tryz.isAgg0
 z0:=Tryz.sizeOf0
 v0:=Tryz.zeroValue0
 t24:=Tryz.underlying39
 a24:=Tryz.isAgg39
 z24:=Tryz.sizeOf39
 v24:=Tryz.zeroValue39
 t26:=Tryz.underlying9
 a26:=Tryz.isAgg9
 z26:=Tryz.sizeOf9
 v26:=Tryz.zeroValue9
 t28:=Tryz.underlying60
 a28:=Tryz.isAgg60
 z28:=Tryz.sizeOf60
 v28:=Tryz.zeroValue60
 i26:=by kernel_rfl
def Tryz.abP:Go.Shelf.Ren:=⟨fun | 6=>57 | 8=>70 | 9=>69 | 19=>89 | 20=>90 | 21=>80 | 22=>81 | 23=>82 | 24=>83 | 25=>84 | 26=>85 | 27=>86 | 28=>87 | 29=>88 | 36=>96 | 31=>97 | 32=>98 | 37=>99 | 38=>100 | 39=>101 | 41=>112 | n=>n,fun | 27=>39 | 29=>9 | 3=>3 | 32=>80 | 26=>39 | 0=>0 | 44=>97 | 46=>100 | 4=>4 | 36=>107 | 35=>106 | 41=>112 | 5=>5 | 9=>9 | 53=>122 | 57=>126 | 63=>131 | 64=>132 | n=>n,fun | n=>n⟩
theorem Tryz.Mu:Go.Proofs.SlLaysM.n6 Tryz.prog Tryz.abP where
 mixed:=by kernel_rfl
 f6:=⟨"slices.Sort[[]string,string]",by decide,Tryz.func57.trans (congrArg some (by kernel_rfl))⟩
 f8:=Tryz.func70.trans (congrArg some (by kernel_rfl))
 f9:=⟨"slices.pdqsortOrdered[string]",by decide,Tryz.func69.trans (congrArg some (by kernel_rfl))⟩
 f19:=Tryz.func89.trans (congrArg some (by kernel_rfl))
 f20:=Tryz.func90.trans (congrArg some (by kernel_rfl))
 f21:=⟨"slices.insertionSortOrdered[string]",by decide,Tryz.func80.trans (congrArg some (by kernel_rfl))⟩
 f22:=⟨"slices.heapSortOrdered[string]",by decide,Tryz.func81.trans (congrArg some (by kernel_rfl))⟩
 f23:=⟨"slices.breakPatternsOrdered[string]",by decide,Tryz.func82.trans (congrArg some (by kernel_rfl))⟩
 f24:=⟨"slices.choosePivotOrdered[string]",by decide,Tryz.func83.trans (congrArg some (by kernel_rfl))⟩
 f25:=⟨"slices.reverseRangeOrdered[string]",by decide,Tryz.func84.trans (congrArg some (by kernel_rfl))⟩
 f26:=⟨"slices.partialInsertionSortOrdered[string]",by decide,Tryz.func85.trans (congrArg some (by kernel_rfl))⟩
 f27:=⟨"cmp.Less[string]",by decide,Tryz.func86.trans (congrArg some (by kernel_rfl))⟩
 f28:=⟨"slices.partitionEqualOrdered[string]",by decide,Tryz.func87.trans (congrArg some (by kernel_rfl))⟩
 f29:=⟨"slices.partitionOrdered[string]",by decide,Tryz.func88.trans (congrArg some (by kernel_rfl))⟩
 f31:=Tryz.func97.trans (congrArg some (by kernel_rfl))
 f32:=Tryz.func98.trans (congrArg some (by kernel_rfl))
 f36:=⟨"slices.siftDownOrdered[string]",by decide,Tryz.func96.trans (congrArg some (by kernel_rfl))⟩
 f37:=⟨"slices.medianAdjacentOrdered[string]",by decide,Tryz.func99.trans (congrArg some (by kernel_rfl))⟩
 f38:=⟨"slices.medianOrdered[string]",by decide,Tryz.func100.trans (congrArg some (by kernel_rfl))⟩
 f39:=⟨"cmp.isNaN[string]",by decide,Tryz.func101.trans (congrArg some (by kernel_rfl))⟩
 f41:=⟨"slices.order2Ordered[string]",by decide,Tryz.func112.trans (congrArg some (by kernel_rfl))⟩
 t0:=Tryz.underlying0
 a0:=Tryz.isAgg0
 z0:=Tryz.sizeOf0
 v0:=Tryz.zeroValue0
 t3:=Tryz.underlying3
 a3:=Tryz.isAgg3
 z3:=Tryz.sizeOf3
 v3:=Tryz.zeroValue3
 t4:=Tryz.underlying4
 a4:=Tryz.isAgg4
 z4:=Tryz.sizeOf4
 v4:=Tryz.zeroValue4
 t5:=Tryz.underlying5
 a5:=Tryz.isAgg5
 z5:=Tryz.sizeOf5
 v5:=Tryz.zeroValue5
 t9:=Tryz.underlying9
 a9:=Tryz.isAgg9
 z9:=Tryz.sizeOf9
 v9:=Tryz.zeroValue9
 t26:=Tryz.underlying39
 a26:=Tryz.isAgg39
 z26:=Tryz.sizeOf39
 v26:=Tryz.zeroValue39
 t27:=Tryz.underlying39
 a27:=Tryz.isAgg39
 z27:=Tryz.sizeOf39
 v27:=Tryz.zeroValue39
 t29:=Tryz.underlying9
 a29:=Tryz.isAgg9
 z29:=Tryz.sizeOf9
 v29:=Tryz.zeroValue9
 t32:=Tryz.underlying80
 a32:=Tryz.isAgg80
 z32:=Tryz.sizeOf80
 v32:=Tryz.zeroValue80
 t35:=Tryz.underlying106
 a35:=Tryz.isAgg106
 z35:=Tryz.sizeOf106
 v35:=Tryz.zeroValue106
 t36:=Tryz.underlying107
 a36:=Tryz.isAgg107
 z36:=Tryz.sizeOf107
 v36:=Tryz.zeroValue107
 t41:=Tryz.underlying112
 a41:=Tryz.isAgg112
 z41:=Tryz.sizeOf112
 v41:=Tryz.zeroValue112
 t44:=Tryz.underlying97
 a44:=Tryz.isAgg97
 z44:=Tryz.sizeOf97
 v44:=Tryz.zeroValue97
 t46:=Tryz.underlying100
 a46:=Tryz.isAgg100
 z46:=Tryz.sizeOf100
 v46:=Tryz.zeroValue100
 t53:=Tryz.underlying122
 a53:=Tryz.isAgg122
 z53:=Tryz.sizeOf122
 v53:=Tryz.zeroValue122
 t57:=Tryz.underlying126
 a57:=Tryz.isAgg126
 z57:=Tryz.sizeOf126
 v57:=Tryz.zeroValue126
 t63:=Tryz.underlying131
 a63:=Tryz.isAgg131
 z63:=Tryz.sizeOf131
 v63:=Tryz.zeroValue131
 t64:=Tryz.underlying132
 a64:=Tryz.isAgg132
 z64:=Tryz.sizeOf132
 v64:=Tryz.zeroValue132
theorem Hx (s sub:ByteArray) (m:Int) (w:World) (aQ:s.size<4294967281) (hm:w.cell? ⟨2,0,none⟩=some (.int .i64 m)):
 Calls Tryz.prog 120 #[.string s,.string sub] w fun e al=>e=.returned (.bool (Lib.contains s.data.toList sub.data.toList))∧al=w:=Any.strings_Contains Tryz.YC s sub m w aQ hm
end
section
open Go.RowKit Go.Maps Go.Sort Go.Shelf
theorem abT (m:Nat):AnyZ.SortsIn Tryz.prog Tryz.Mv Fence.wide m:=
 ⟨fun bd off cap eO W iF iH bZ=>callsIn_wide.2 (AnyM.slices_Sort_string Tryz.Mu bd off cap eO W iF iH bZ),
  fun p cap W=>callsIn_wide.2 (AnyM.slices_Sort_string_none Tryz.Mu p cap W)⟩
theorem abR:a1.Gs Tryz.prog 43 58 9:=by
 intro qs b EI pa R w T_ q2 fC tc Uw
 have VK:SeqGives Fence.wide 2 Tryz.prog 58 #[.pointer (some ⟨qs,0,none⟩)] encStr (fun eO=>eO.Perm (strKeys pa)) (Maps.size pa) w:=
  AnyZ.keys_gives (ρ:=Tryz.Kg) {Tryz.XK with} Fence.wide _ trivial rfl (by omega) qs b EI pa w T_ q2 fC
 have B7:=AnyZ.sorted_in Tryz.abQ Fence.wide 5 trivial trivial trivial trivial rfl (by omega) (abT _) (enters_of Tryz.func57 (by kernel_rfl) rfl) 58 #[.pointer (some ⟨qs,0,none⟩)] trivial (enters_of Tryz.func58 (by kernel_rfl) rfl) _ _ tc Uw _ VK
 change CallsIn _ _ Tryz.prog 43 _ _ _ at B7
 exact callsIn_wide.1 (B7.mono fun e al q=>by
  obtain ⟨v,eO,rfl,fr,DQ,ml,af⟩:=q
  exact ⟨v,eO,rfl,fr,DQ,ml,af⟩)
end
noncomputable def ctx:Ctx:=⟨Tryz.prog,fun f=>bif Nat.beq f 120 then some Cc else bif Nat.beq f 43 then some (FC 58) else none,fun f=>bif Nat.beq f 114 then some yY else none⟩
theorem follows:Tryz.prog.follows .mixedOrders=true:=by kernel_rfl
theorem names:(Tryz.prog.funcs.toList.all fun fn=>!(fn.name == "runtime.NumGoroutine"))=true:=by kernel_rfl
theorem c2:dJ Tryz.prog:=by
 intro f fn h
 have:=List.all_eq_true.1 names fn (List.mem_of_getElem? (i:=f) (by simpa using h))
 simpa using this
theorem E8:l0 ctx:=by
 refine ⟨fun f p args h v aa ah he=>?_,fun f p args h v aa ah he aw E w xs ao s=>?_⟩
 · simp only [ctx,fK] at ah
   by_cases ax:f=120
   · rw [if_pos ax] at ah
     cases ah
     subst ax
     obtain ⟨s,sub,rfl,aQ,rfl,rfl⟩:=Sg he
     refine ⟨⟨_,Tryz.func120,by kernel_rfl⟩,Yt fun E xs w ai ao=>?_⟩
     obtain ⟨y,b2,rfl,aj,z,iv,rfl,ay,rfl⟩:=ao
     simp only [Rel] at aj ay
     subst aj ay
     obtain ⟨m,hm⟩:=ai.maxLen
     refine (Hx ⟨⟨s⟩⟩ ⟨⟨sub⟩⟩ m w (by show s.length<4294967281;omega) hm).mono fun e al q=>?_
     obtain ⟨rfl,rfl⟩:=q
     exact ⟨_,rfl,by simp only [Rel],Below.refl _ _⟩
   · rw [if_neg ax] at ah
     by_cases ax:f=43
     · rw [if_pos ax] at ah
       cases ah
       subst ax
       exact ⟨⟨_,Tryz.func43,by kernel_rfl⟩,fun aw E w xs ao s=>abS (by decide) Tryz.underlying9 abR he aw E w xs ao s⟩
     · rw [if_neg ax] at ah;cases ah
 · simp only [ctx,fK] at ah
   by_cases ax:f=114
   · rw [if_pos ax] at ah
     cases ah
     subst ax
     exact Wq (P:=Tryz.prog) Tryz.func114 (by kernel_rfl) (by kernel_rfl) (by kernel_rfl) (by kernel_rfl) he aw E w xs ao s
   · rw [if_neg ax] at ah;cases ah
end Go.Proofs.YtkehcalakofigaaGreatDoor
namespace Go.Proofs.YtkehcalakofigaaGreatDoor
open Go a1
abbrev ag (d a8:Nat):bs:=⟨some d,.dk (.t a8),none,[a8]⟩
abbrev bR (d a8:Nat):bs:=⟨some d,.fS (.t a8),none,[a8]⟩
abbrev c' (d a8:Nat):bs:=⟨some d,.p2 (.t a8),none,[a8]⟩
abbrev dc (d a8 bu:Nat):bs:=⟨some d,.dk (.t a8),(some (bu,true)),[a8,bu]⟩
abbrev dx (d a8 bu:Nat):bs:=⟨some d,.pick (.t a8) (.t bu) (.c (.bool false)),none,[a8,bu]⟩
abbrev dj (d:Nat):bs:=⟨some d,.dk (.c (.bool false)),none,[]⟩
abbrev dN (d a8:Nat):bs:=⟨some d,.e2 1 (.t a8),none,[a8]⟩
abbrev dX (d:Nat):bs:=⟨some d,.dk (.c (.int .i64 0)),none,[]⟩
abbrev ea (d a8:Nat):bs:=⟨some d,.hY 5 (.t a8),none,[a8]⟩
abbrev eI (d a8 bu:Nat):bs:=⟨some d,.pick (.t a8) (.c (.bool true)) (.t bu),none,[a8,bu]⟩
abbrev eH (d a8:Nat):bs:=⟨some d,.bin (.int .add) (.t a8) (.c (.int .i64 1)),none,[a8]⟩
abbrev eS (d a8:Nat):bs:=⟨some d,.len .slice (.t a8),none,[a8]⟩
abbrev fJ (d a8 bu:Nat):bs:=⟨some d,.dk (.t a8),(some (bu,false)),[a8,bu]⟩
abbrev fX (d a8 bu:Nat):bs:=⟨some d,.bin (.int .lss) (.t a8) (.t bu),none,[a8,bu]⟩
abbrev fY (d a8:Nat):bs:=⟨some d,.e2 0 (.t a8),none,[a8]⟩
abbrev gN (d a8 bu:Nat):bs:=⟨some d,.fS (.t a8),(some (bu,true)),[a8,bu]⟩
abbrev hA (d a8:Nat):bs:=⟨some d,.box (.t a8),none,[a8]⟩
abbrev hR (d a8 bu:Nat):bs:=⟨some d,.c4 5 (.t a8) (.t bu),none,[a8,bu]⟩
abbrev ix (d a8:Nat):bs:=⟨some d,.e2 4 (.t a8),none,[a8]⟩
abbrev iy (d a8:Nat):bs:=⟨some d,.len .str (.t a8),none,[a8]⟩
abbrev i' (d a8 bu:Nat):bs:=⟨some d,.hY 5 (.t a8),(some (bu,false)),[a8,bu]⟩
abbrev i_ (d:Nat):bs:=⟨some d,.dk (.c .cq),none,[]⟩
abbrev j4 (d a8 bu:Nat):bs:=⟨some d,.hY 5 (.t a8),(some (bu,true)),[a8,bu]⟩
abbrev kG (d a8 bu:Nat):bs:=⟨some d,.fS (.t a8),(some (bu,false)),[a8,bu]⟩
abbrev kH (d a8:Nat):bs:=⟨some d,.e2 2 (.t a8),none,[a8]⟩
abbrev lY (d a8 bu:Nat):bs:=⟨some d,.c4 1 (.t a8) (.t bu),none,[a8,bu]⟩
abbrev nN (d:Nat):bs:=⟨some d,.new [(.int .i64 0),(.int .i64 0),(.int .i64 0),(.str []),.cq],none,[]⟩
abbrev nO (d a8:Nat):bs:=⟨some d,.un .not (.t a8),none,[a8]⟩
abbrev nP (d a8:Nat):bs:=⟨some d,.e2 3 (.t a8),none,[a8]⟩
abbrev pc (d a8:Nat):bs:=⟨some d,.gZ 1 5 [(.int .i64 0),(.int .i64 0),(.int .i64 0),(.str []),.cq] [(0,5,(.t a8))],none,[a8]⟩
abbrev pd (d a8 bu:Nat):bs:=⟨some d,.un .not (.t a8),(some (bu,false)),[a8,bu]⟩
abbrev pe (d a8 bu:Nat):bs:=⟨some d,.e2 1 (.t a8),(some (bu,true)),[a8,bu]⟩
abbrev pf (d a8:Nat):bs:=⟨some d,.ext (.t a8) 0,none,[a8]⟩
abbrev pg (d a8:Nat):bs:=⟨some d,.ext (.t a8) 1,none,[a8]⟩
abbrev qw (d a8:Nat):bs:=⟨some d,.bin (.int .eql) (.t a8) (.c (.int .i64 1)),none,[a8]⟩
abbrev qx (d a8:Nat):bs:=⟨some d,.bin (.int .eql) (.t a8) (.c (.int .i64 0)),none,[a8]⟩
abbrev qy (d a8:Nat):bs:=⟨some d,.bin (.int .eql) (.t a8) (.c (.int .i64 2)),none,[a8]⟩
abbrev sg (d a8 bu:Nat):bs:=⟨some d,.c4 5 (.t a8) (.c (.int .i64 0)),(some (bu,true)),[a8,bu]⟩
abbrev sh (d a8 bu:Nat):bs:=⟨some d,.bin (.int .add) (.t a8) (.t bu),none,[a8,bu]⟩
abbrev si (d:Nat):bs:=⟨some d,.dk (.c (.bool true)),none,[]⟩
abbrev sj (d a8 bu:Nat):bs:=⟨some d,.bin (.int .sub) (.t a8) (.t bu),none,[a8,bu]⟩
abbrev sk (d a8 bu:Nat):bs:=⟨some d,.bin (.int .geq) (.t a8) (.t bu),none,[a8,bu]⟩
abbrev sl (d a8:Nat):bs:=⟨some d,.bin (.int .eql) (.t a8) (.c (.int .i64 3)),none,[a8]⟩
abbrev sn (d a8 bu:Nat):bs:=⟨some d,.app 1 (.t a8) (.t bu),none,[a8,bu]⟩
abbrev so (d a8 bu:Nat):bs:=⟨some d,.p2 (.t a8),(some (bu,true)),[a8,bu]⟩
abbrev uD (d:Nat):bs:=⟨some d,.dk (.c (.int .i64 1)),none,[]⟩
abbrev uE (d a8 bu dE:Nat):bs:=⟨some d,.bin (.int .eql) (.t a8) (.t bu),(some (dE,true)),[a8,bu,dE]⟩
abbrev uF (d a8 bu:Nat):bs:=⟨some d,.e2 0 (.t a8),(some (bu,true)),[a8,bu]⟩
abbrev uG (d:Nat):bs:=⟨some d,.new [(.int .i64 0),(.int .i64 0),(.int .i64 0),(.str [])],none,[]⟩
abbrev w8 (d a8 bu dE:Nat):bs:=⟨some d,.c4 5 (.t a8) (.t bu),(some (dE,false)),[a8,bu,dE]⟩
abbrev w9 (d a8 bu:Nat):bs:=⟨some d,.call 15 [(.t a8)],(some (bu,false)),[a8,bu]⟩
abbrev w' (d a8 bu:Nat):bs:=⟨some d,.bin (.int .eql) (.t a8) (.t bu),none,[a8,bu]⟩
abbrev w_ (d a8:Nat):bs:=⟨some d,.bin (.int .sub) (.t a8) (.c (.int .i64 1)),none,[a8]⟩
abbrev xa (d:Nat):bs:=⟨some d,.dk (.c (.int .i64 2)),none,[]⟩
abbrev xb (d a8 bu:Nat):bs:=⟨some d,.e2 4 (.t a8),(some (bu,true)),[a8,bu]⟩
abbrev xc (d a8:Nat):bs:=⟨some d,.bin (.int .eql) (.t a8) (.c (.int .i64 46)),none,[a8]⟩
abbrev xd (d a8:Nat):bs:=⟨some d,.bin (.int .eql) (.t a8) (.c (.int .i64 47)),none,[a8]⟩
abbrev xe (d a8 bu:Nat):bs:=⟨some d,.e2 2 (.t a8),(some (bu,false)),[a8,bu]⟩
abbrev xf (d a8:Nat):bs:=⟨some d,.bin (.int .eql) (.t a8) (.c (.int .i64 50)),none,[a8]⟩
abbrev xg (d a8:Nat):bs:=⟨some d,.bin (.int .eql) (.t a8) (.c (.int .i64 5)),none,[a8]⟩
abbrev xh (d a8:Nat):bs:=⟨some d,.bin (.int .geq) (.t a8) (.c (.int .i64 0)),none,[a8]⟩
abbrev xi (d a8 bu:Nat):bs:=⟨some d,.bin (.str .eql) (.t a8) (.t bu),none,[a8,bu]⟩
abbrev xj (d a8 bu:Nat):bs:=⟨some d,.c4 4 (.t a8) (.c (.int .i64 0)),(some (bu,true)),[a8,bu]⟩
abbrev xk (d a8 bu:Nat):bs:=⟨some d,.jU (.t a8) (.t bu),none,[a8,bu]⟩
abbrev xl (d a8:Nat):bs:=⟨some d,.jU (.t a8) (.c (.int .i64 0)),none,[a8]⟩
abbrev xm (d a8 bu:Nat):bs:=⟨some d,.bin (.int .eql) (.t a8) (.c (.int .u8 95)),(some (bu,false)),[a8,bu]⟩
abbrev AE (d a8 bu dE:Nat):bs:=⟨some d,.bin (.int .neq) (.t a8) (.t bu),(some (dE,false)),[a8,bu,dE]⟩
abbrev AF (d a8 bu:Nat):bs:=⟨some d,.bin (.int .add) (.t a8) (.c (.int .i64 1)),(some (bu,true)),[a8,bu]⟩
abbrev AG (d a8 bu dE:Nat):bs:=⟨some d,.call 24 [(.t a8),(.t bu)],(some (dE,true)),[a8,bu,dE]⟩
abbrev AH (d a8 bu dE:Nat):bs:=⟨some d,.bin (.int .gtr) (.t a8) (.t bu),(some (dE,false)),[a8,bu,dE]⟩
abbrev AI (d a8:Nat):bs:=⟨some d,.bin (.int .geq) (.t a8) (.c (.int .i64 1)),none,[a8]⟩
abbrev AJ (d a8:Nat):bs:=⟨some d,.bin (.int .eql) (.t a8) (.c (.int .i64 45)),none,[a8]⟩
abbrev AK (d a8:Nat):bs:=⟨some d,.bin (.int .eql) (.t a8) (.c (.int .i64 4)),none,[a8]⟩
abbrev AL (d a8:Nat):bs:=⟨some d,.bin (.str .eql) (.t a8) (.c (.str [])),none,[a8]⟩
abbrev AM (d a8:Nat):bs:=⟨some d,.bin (.int .leq) (.t a8) (.c (.int .i64 1)),none,[a8]⟩
abbrev AN (d a8:Nat):bs:=⟨some d,.call 78 [(.t a8),(.c (.int .u8 97)),(.c (.int .u8 122))],none,[a8]⟩
abbrev AO (d a8 bu:Nat):bs:=⟨some d,.nF (.t a8) (some (.t bu)) none none,none,[a8,bu]⟩
abbrev AP (d:Nat):bs:=⟨some d,.build [(.int .i64 0),(.int .i64 0),(.int .i64 0),(.str [])] [],none,[]⟩
abbrev Gf (d a8 bu:Nat):bs:=⟨some d,.gZ 2 5 [(.int .i64 0),(.int .i64 0),(.int .i64 0),(.str []),.cq] [(0,5,(.t a8)),(5,5,(.t bu))],none,[a8,bu]⟩
abbrev Gg (d:Nat):bs:=⟨some d,.gZ 8 1 [(.str [])] [(0,1,(.c (.str [43]))),(1,1,(.c (.str [45]))),(2,1,(.c (.str [42]))),(3,1,(.c (.str [47]))),(4,1,(.c (.str [109,111,100]))),(5,1,(.c (.str [61]))),(6,1,(.c (.str [60]))),(7,1,(.c (.str [60,61])))],none,[]⟩
abbrev Gh (d a8:Nat):bs:=⟨some d,.build [(.int .i64 0),(.int .i64 0),(.int .i64 0),(.str [])] [(0,1,(.c (.int .i64 7))),(3,1,(.t a8))],none,[a8]⟩
def Hf:bB:=
 .seq (.seq (.aq [ag 15 4,ag 16 0,eS 17 16,fX 18 15 17])
 (.cond (.t 18)
 (.skip)
 (.exit 0)))
 (.seq (.block 1 (.seq (.draw [ag 21 3,ag 22 4,hR 23 21 22,ea 24 23,ag 26 0,ag 27 4,hR 28 26 27,ea 29 28,⟨some 25,.call 13 [(.t 24)],none,[24]⟩,⟨some 30,.call 14 [(.t 29)],none,[29]⟩,⟨some 31,.bin (.int .neq) (.t 25) (.t 30),none,[25,30]⟩,ag 32 31,fJ 33 3 32,fJ 34 4 32,w8 35 33 34 32,i' 36 35 32,fJ 38 0 32,fJ 39 4 32,w8 40 38 39 32,i' 41 40 32,w9 37 36 32,⟨some 42,.call 16 [(.t 41)],(some (32,false)),[41,32]⟩,AE 43 37 42 32,eI 44 32 43] [(3,[8]),(7,[8,9]),(15,[20]),(19,[20,21])])
 (.cond (.t 44)
 (.seq (.aq [dj 2])
 (.ret))
 (.skip))))
 (.aq [ag 19 4,eH 20 19,ag 4 20]))
def c3:bB:=
 .seq (.aq [dj 2])
 (.seq (.seq (.aq [ag 5 0,⟨some 6,.call 8 [(.t 5),(.c (.int .i64 400))],none,[5]⟩])
 (.cond (.t 6)
 (.seq (.aq [⟨some 7,.call 9 [],none,[]⟩,ag 2 7])
 (.ret))
 (.skip)))
 (.seq (.aq [ag 8 0,⟨some 9,.call 10 [(.t 8)],none,[8]⟩,ag 3 9])
 (.seq (.seq (.aq [ag 10 3,⟨some 11,.call 11 [(.t 10)],none,[10]⟩,ag 12 0,⟨some 13,.call 12 [(.t 12)],none,[12]⟩,⟨some 14,.bin (.int .neq) (.t 11) (.t 13),none,[11,13]⟩])
 (.cond (.t 14)
 (.seq (.aq [dj 2])
 (.ret))
 (.skip)))
 (.seq (.seq (.aq [dX 4])
 (.block 0 (.loop Hf)))
 (.seq (.aq [ag 45 3,ag 46 0,⟨some 47,.call 17 [(.t 45),(.t 46)],none,[45,46]⟩,ag 48 47,⟨some 49,.call 9 [],(some (48,true)),[48]⟩,dx 50 48 49,ag 2 50])
 (.ret))))))
theorem Qg:b6 Tryz.prog Tryz.f3.ntmps (Tryz.f3.body.getD .skip)=c3:=by kernel_rfl
theorem Qh:cH Tryz.prog Tryz.f3.ntmps Tryz.f3.results.toList=[.t 2]:=by kernel_rfl
theorem Qf {args:List V} {h:ae} {K:V→ae→Prop} (ai:Nat.ble args.length 51=true) (H:b5 Tryz.prog c3 (aS.bk args) h fun e r aa=>e.ends∧∃ab,cB r aa [.t 2]=some ab∧K (oneOf ab) aa):bF Tryz.prog 3 args h K:=
 df follows c2 Tryz.func3 (c:=Tryz.f3.body.getD .skip) (by kernel_rfl) (by kernel_rfl) (by kernel_rfl) ai Qg Qh (by kernel_rfl) H
def Qx:bB:=
 .seq (.seq (.aq [ag 18 7,ag 19 5,fX 20 18 19])
 (.cond (.t 20)
 (.skip)
 (.exit 0)))
 (.seq (.block 1 (.seq (.aq [dX 8])
 (.seq (.seq (.aq [ag 23 1,eS 24 23,⟨some 25,.bin (.int .gtr) (.t 24) (.c (.int .i64 0)),none,[24]⟩])
 (.cond (.t 25)
 (.aq [ag 26 1,ag 27 7,ag 28 1,eS 29 28,⟨some 30,.bin (.int .rem) (.t 27) (.t 29),none,[27,29]⟩,lY 31 26 30,bR 32 31,⟨some 33,.call 18 [(.t 32),(.c (.int .i64 3))],none,[32]⟩,ag 8 33])
 (.skip)))
 (.draw [⟨some 34,.gZ 3 1 [(.int .i64 0)] [(0,1,(.c (.int .i64 39))),(1,1,(.c (.int .i64 36))),(2,1,(.c (.int .i64 34)))],none,[]⟩,ag 35 8,lY 36 34 35,bR 37 36,ea 38 6,pc 39 38,⟨some 40,.build [(.int .i64 0),(.int .i64 0),(.int .i64 0),(.str []),.cq] [(0,1,(.t 37)),(4,1,(.t 39))],none,[37,39]⟩,⟨none,.st 5 (.t 6) (.t 40),none,[6,40]⟩] [(3,[7]),(4,[7])]))))
 (.aq [ag 21 7,eH 22 21,ag 7 22]))
def fZ:bB:=
 .seq (.aq [dj 4])
 (.seq (.seq (.aq [ag 10 1,eS 11 10,⟨some 12,.bin (.int .gtr) (.t 11) (.c (.int .i64 20)),none,[11]⟩])
 (.cond (.t 12)
 (.seq (.aq [⟨some 13,.call 9 [],none,[]⟩,ag 4 13])
 (.ret))
 (.skip)))
 (.seq (.aq [ag 14 0,⟨some 15,.call 18 [(.t 14),(.c (.int .i64 15))],none,[14]⟩,⟨some 16,.bin (.int .add) (.c (.int .i64 190)) (.t 15),none,[15]⟩,ag 5 16])
 (.seq (.aq [⟨some 17,.build [(.int .i64 0),(.int .i64 0),(.int .i64 0),(.str []),.cq] [(0,1,(.c (.int .i64 22)))],none,[]⟩,nN 6,⟨none,.st 5 (.t 6) (.t 17),none,[6,17]⟩])
 (.seq (.seq (.aq [uD 7])
 (.block 0 (.loop Qx)))
 (.seq (.aq [⟨some 41,.build [(.int .i64 0),(.int .i64 0),(.int .i64 0),(.str []),.cq] [(0,1,(.c (.int .i64 10)))],none,[]⟩,ea 42 6,Gf 43 41 42,⟨some 44,.build [(.int .i64 0),(.int .i64 0),(.int .i64 0),(.str []),.cq] [(0,1,(.c (.int .i64 52))),(4,1,(.t 43))],none,[43]⟩,pc 45 44,ag 9 45])
 (.seq (.aq [ag 46 9,⟨some 47,.call 11 [(.t 46)],none,[46]⟩,ag 48 9,⟨some 49,.call 12 [(.t 48)],none,[48]⟩,w' 50 47 49,ag 51 50,dc 52 9 51,sg 53 52 51,j4 54 53 51,⟨some 55,.call 13 [(.t 54)],(some (51,true)),[54,51]⟩,dc 56 5 51,AF 57 56 51,uE 58 55 57 51,dx 59 51 58,ag 60 59,dc 61 9 60,sg 62 61 60,j4 63 62 60,⟨some 64,.call 15 [(.t 63)],(some (60,true)),[63,60]⟩,dc 65 5 60,⟨some 66,.bin (.int .add) (.t 65) (.c (.int .i64 2)),(some (60,true)),[65,60]⟩,uE 67 64 66 60,dx 68 60 67,ag 69 68,⟨some 70,.call 9 [],(some (69,true)),[69]⟩,dx 71 69 70,ag 4 71])
 (.ret)))))))
def c5:bB:=
 .seq (.aq [hA 2 0,hA 3 1,dj 4])
 (.seq (.seq (.aq [ea 8 2,ea 9 3,Gf 10 8 9,⟨some 11,.call 8 [(.t 10),(.c (.int .i64 300))],none,[10]⟩])
 (.cond (.t 11)
 (.seq (.aq [⟨some 12,.call 9 [],none,[]⟩,ag 4 12])
 (.ret))
 (.skip)))
 (.seq (.aq [ea 13 2,pc 14 13,⟨some 15,.call 10 [(.t 14)],none,[14]⟩,ag 5 15])
 (.seq (.aq [ag 16 5,⟨some 17,.c4 5 (.t 16) (.c (.int .i64 0)),none,[16]⟩,ea 18 17,⟨some 19,.call 19 [(.t 18)],none,[18]⟩,nN 6,⟨none,.st 5 (.t 6) (.t 19),none,[6,19]⟩])
 (.seq (.draw [ea 20 6,ea 21 2,⟨some 22,.call 21 [(.t 21)],none,[21]⟩,⟨some 23,.call 20 [(.t 20),(.t 22)],none,[20,22]⟩,ag 24 23,dc 25 5 24,sg 26 25 24,j4 27 26 24,j4 28 3 24,j4 30 2 24,j4 31 3 24,⟨some 29,.call 22 [(.t 27),(.t 28)],(some (24,true)),[27,28,24]⟩,⟨some 32,.call 23 [(.t 30),(.t 31)],(some (24,true)),[30,31,24]⟩,⟨some 33,.bin (.sN false) (.t 29) (.t 32),(some (24,true)),[29,32,24]⟩,dx 34 24 33,ag 7 34] [(0,[2,3]),(1,[2]),(7,[11]),(8,[11]),(9,[11,12]),(10,[11,12])])
 (.seq (.draw [ag 35 7,ag 36 35,dc 37 5 36,sg 38 37 36,j4 39 38 36,j4 41 2 36,⟨some 40,.call 25 [(.t 39)],(some (36,true)),[39,36]⟩,⟨some 42,.call 26 [(.t 41)],(some (36,true)),[41,36]⟩,AG 43 40 42 36,dx 44 36 43,ag 45 44,dc 46 5 45,sg 47 46 45,j4 48 47 45,j4 50 2 45,⟨some 49,.call 27 [(.t 48)],(some (45,true)),[48,45]⟩,⟨some 51,.call 28 [(.t 50)],(some (45,true)),[50,45]⟩,AG 52 49 51 45,dx 53 45 52,ag 7 53] [(4,[6]),(5,[6,7]),(13,[15]),(14,[15,16])])
 (.seq (.aq [ea 54 6,pc 55 54,⟨some 56,.call 29 [(.t 55)],none,[55]⟩])
 (.seq (.aq [ag 57 7,ag 58 57,dc 59 5 58,j4 60 2 58,⟨some 61,.gZ 1 5 [(.int .i64 0),(.int .i64 0),(.int .i64 0),(.str []),.cq] [(0,5,(.t 60))],(some (58,true)),[60,58]⟩,⟨some 62,.call 17 [(.t 59),(.t 61)],(some (58,true)),[59,61,58]⟩,dx 63 58 62,ag 64 63,⟨some 65,.call 9 [],(some (64,true)),[64]⟩,dx 66 64 65,ag 4 66])
 (.ret))))))))
def Rk:bB:=
 .seq (.seq (.aq [ag 50 6,ag 51 5,eS 52 51,fX 53 50 52])
 (.cond (.t 53)
 (.skip)
 (.exit 0)))
 (.seq (.block 1 (.seq (.draw [ag 56 5,ag 57 6,w_ 58 57,lY 59 56 58,bR 60 59,ag 61 5,ag 62 6,lY 63 61 62,bR 64 63,⟨some 65,.bin (.str .geq) (.t 60) (.t 64),none,[60,64]⟩] [])
 (.cond (.t 65)
 (.seq (.aq [dj 2])
 (.ret))
 (.skip))))
 (.aq [ag 54 6,eH 55 54,ag 6 55]))
def BV:bB:=
 .seq (.aq [hA 1 0,dj 2])
 (.seq (.aq [⟨some 10,.call 6 [],none,[]⟩,ag 3 10])
 (.seq (.seq (.aq [ea 11 1,pc 12 11,⟨some 13,.call 8 [(.t 12),(.c (.int .i64 300))],none,[12]⟩])
 (.cond (.t 13)
 (.seq (.aq [ag 14 3,ag 2 14])
 (.ret))
 (.skip)))
 (.seq (.aq [ea 15 1,⟨some 16,.call 19 [(.t 15)],none,[15]⟩,nN 4,⟨none,.st 5 (.t 4) (.t 16),none,[4,16]⟩])
 (.seq (.seq (.draw [ea 17 1,ea 18 4,⟨some 19,.call 22 [(.t 17),(.t 18)],none,[17,18]⟩,nO 20 19,ag 21 20,i' 22 4 21,i' 23 1 21,⟨some 24,.call 22 [(.t 22),(.t 23)],(some (21,false)),[22,23,21]⟩,pd 25 24 21,eI 26 21 25,ag 27 26,i' 28 1 27,i' 30 4 27,⟨some 29,.call 13 [(.t 28)],(some (27,false)),[28,27]⟩,⟨some 31,.call 13 [(.t 30)],(some (27,false)),[30,27]⟩,AE 32 29 31 27,eI 33 27 32,ag 34 33,i' 35 1 34,i' 37 4 34,w9 36 35 34,w9 38 37 34,AE 39 36 38 34,eI 40 34 39,ag 41 40,i' 42 1 41,i' 44 1 41,⟨some 43,.call 13 [(.t 42)],(some (41,false)),[42,41]⟩,w9 45 44 41,AH 46 43 45 41,eI 47 41 46] [(0,[2]),(1,[2]),(5,[7]),(6,[7]),(11,[13]),(12,[13,14]),(18,[20]),(19,[20,21]),(25,[27]),(26,[27,28])])
 (.cond (.t 47)
 (.seq (.aq [dj 2])
 (.ret))
 (.skip)))
 (.seq (.aq [ea 48 4,⟨some 49,.call 27 [(.t 48)],none,[48]⟩,ag 5 49])
 (.seq (.seq (.aq [uD 6])
 (.block 0 (.loop Rk)))
 (.seq (.draw [ea 66 1,pc 67 66,ea 69 4,pc 70 69,⟨some 68,.call 11 [(.t 67)],none,[67]⟩,⟨some 71,.call 11 [(.t 70)],none,[70]⟩,ag 7 68,ag 8 71] [(0,[4]),(2,[4,5])])
 (.seq (.draw [ea 72 1,ea 74 4,⟨some 73,.call 25 [(.t 72)],none,[72]⟩,⟨some 75,.call 25 [(.t 74)],none,[74]⟩,⟨some 76,.call 24 [(.t 73),(.t 75)],none,[73,75]⟩,ag 77 76,dc 78 7 77,⟨some 79,.bin (.int .neq) (.t 78) (.c (.int .i64 0)),(some (77,true)),[78,77]⟩,dc 80 79 77,fJ 81 8 80,⟨some 82,.bin (.int .eql) (.t 81) (.c (.int .i64 0)),(some (80,false)),[81,80]⟩,fJ 83 82 80,j4 84 1 83,dc 86 5 83,⟨some 85,.call 27 [(.t 84)],(some (83,true)),[84,83]⟩,AG 87 85 86 83,⟨some 88,.pick (.t 83) (.t 87) (.c (.bool false)),(some (80,false)),[83,87,80]⟩,⟨some 89,.pick (.t 80) (.c (.bool true)) (.t 88),(some (77,true)),[80,88,77]⟩,dx 90 77 89,ag 9 90] [(0,[2]),(1,[2,3]),(12,[14])])
 (.seq (.draw [ag 91 3,ag 92 91,dc 93 9 92,dx 94 92 93,ag 95 94,j4 96 4 95,j4 98 4 95,⟨some 97,.call 19 [(.t 96)],(some (95,true)),[96,95]⟩,⟨some 99,.call 20 [(.t 97),(.t 98)],(some (95,true)),[97,98,95]⟩,dx 100 95 99,ag 2 100] [(5,[7]),(6,[7,8])])
 (.ret))))))))))
def j_:bB:=
 .seq (.aq [dj 4])
 (.seq (.aq [ag 5 0,ag 6 1,⟨some 7,.call 33 [(.t 5),(.t 6)],none,[5,6]⟩,ag 8 1,⟨some 9,.bin (.int .gtr) (.t 7) (.t 8),none,[7,8]⟩,ag 4 9])
 (.ret))
theorem Rm:b6 Tryz.prog Tryz.f8.ntmps (Tryz.f8.body.getD .skip)=j_:=by kernel_rfl
theorem Rn:cH Tryz.prog Tryz.f8.ntmps Tryz.f8.results.toList=[.t 4]:=by kernel_rfl
theorem Rl {args:List V} {h:ae} {K:V→ae→Prop} (ai:Nat.ble args.length 10=true) (H:b5 Tryz.prog j_ (aS.bk args) h fun e r aa=>e.ends∧∃ab,cB r aa [.t 4]=some ab∧K (oneOf ab) aa):bF Tryz.prog 8 args h K:=
 df follows c2 Tryz.func8 (c:=Tryz.f8.body.getD .skip) (by kernel_rfl) (by kernel_rfl) (by kernel_rfl) ai Rm Rn (by kernel_rfl) H
def G4:bB:=
 .seq (.seq (.aq [ag 6 4,ag 7 0,eS 8 7,fX 9 6 8])
 (.cond (.t 9)
 (.skip)
 (.exit 0)))
 (.seq (.block 1 (.seq (.aq [ag 12 0,ag 13 4,hR 14 12 13,ea 15 14,nN 5,⟨none,.st 5 (.t 5) (.t 15),none,[5,15]⟩])
 (.seq (.aq [ag 16 0,ag 17 4,hR 18 16 17,ix 19 18,bR 20 19,⟨some 21,.call 10 [(.t 20)],none,[20]⟩,ix 22 5,⟨none,.st 1 (.t 22) (.t 21),none,[22,21]⟩])
 (.aq [ag 23 3,ea 24 5,pc 25 24,⟨some 26,.app 5 (.t 23) (.t 25),none,[23,25]⟩,ag 3 26]))))
 (.aq [ag 10 4,eH 11 10,ag 4 11]))
def Bh:bB:=
 .seq (.aq [i_ 2])
 (.seq (.aq [i_ 3])
 (.seq (.seq (.aq [dX 4])
 (.block 0 (.loop G4)))
 (.seq (.aq [ag 27 3,ag 2 27])
 (.ret))))
theorem Ph:b6 Tryz.prog Tryz.f10.ntmps (Tryz.f10.body.getD .skip)=Bh:=by kernel_rfl
theorem Pj:cH Tryz.prog Tryz.f10.ntmps Tryz.f10.results.toList=[.t 2]:=by kernel_rfl
theorem Pg {args:List V} {h:ae} {K:V→ae→Prop} (ai:Nat.ble args.length 28=true) (H:b5 Tryz.prog Bh (aS.bk args) h fun e r aa=>e.ends∧∃ab,cB r aa [.t 2]=some ab∧K (oneOf ab) aa):bF Tryz.prog 10 args h K:=
 df follows c2 Tryz.func10 (c:=Tryz.f10.body.getD .skip) (by kernel_rfl) (by kernel_rfl) (by kernel_rfl) ai Ph Pj (by kernel_rfl) H
def G6:bB:=
 .seq (.aq [fX 12 11 10])
 (.seq (.cond (.t 12)
 (.skip)
 (.exit 0))
 (.seq (.block 1 (.seq (.aq [hR 13 9 11,ea 14 13,nN 5,⟨none,.st 5 (.t 5) (.t 14),none,[5,14]⟩])
 (.seq (.aq [fY 15 5,bR 16 15,⟨some 17,.call 36 [(.t 16)],none,[16]⟩,⟨some 18,.bin (.int .neq) (.t 17) (.c (.int .i64 7)),none,[17]⟩,ag 19 18,fJ 20 3 19,i' 21 5 19,⟨some 22,.call 37 [(.t 20),(.t 21)],(some (19,false)),[20,21,19]⟩,pd 23 22 19,eI 24 19 23])
 (.cond (.t 24)
 (.seq (.aq [xa 2])
 (.ret))
 (.skip)))))
 (.aq [eH 25 11,ag 11 25])))
def G7:bB:=
 .seq (.aq [fX 29 28 27])
 (.seq (.cond (.t 29)
 (.skip)
 (.exit 2))
 (.seq (.block 3 (.seq (.aq [hR 30 26 28,ea 31 30,nN 7,⟨none,.st 5 (.t 7) (.t 31),none,[7,31]⟩])
 (.seq (.aq [ea 32 7,⟨some 33,.call 13 [(.t 32)],none,[32]⟩,⟨some 34,.bin (.int .gtr) (.t 33) (.c (.int .i64 200)),none,[33]⟩])
 (.cond (.t 34)
 (.seq (.aq [⟨some 2,.dk (.c (.int .i64 260)),none,[]⟩])
 (.ret))
 (.skip)))))
 (.aq [eH 35 28,ag 28 35])))
def Bp:bB:=
 .seq (.aq [dX 2])
 (.seq (.aq [⟨some 8,.call 35 [],none,[]⟩,ag 3 8])
 (.seq (.seq (.aq [ag 9 0,eS 10 9,dX 11])
 (.block 0 (.loop G6)))
 (.seq (.seq (.aq [ag 26 0,eS 27 26,dX 28])
 (.block 2 (.loop G7)))
 (.seq (.aq [dX 2])
 (.ret)))))
theorem PE:b6 Tryz.prog Tryz.f11.ntmps (Tryz.f11.body.getD .skip)=Bp:=by kernel_rfl
theorem PF:cH Tryz.prog Tryz.f11.ntmps Tryz.f11.results.toList=[.t 2]:=by kernel_rfl
theorem PD {args:List V} {h:ae} {K:V→ae→Prop} (ai:Nat.ble args.length 36=true) (H:b5 Tryz.prog Bp (aS.bk args) h fun e r aa=>e.ends∧∃ab,cB r aa [.t 2]=some ab∧K (oneOf ab) aa):bF Tryz.prog 11 args h K:=
 df follows c2 Tryz.func11 (c:=Tryz.f11.body.getD .skip) (by kernel_rfl) (by kernel_rfl) (by kernel_rfl) ai PE PF (by kernel_rfl) H
def G8:bB:=
 .seq (.seq (.aq [ag 5 3,ag 6 0,eS 7 6,fX 8 5 7])
 (.cond (.t 8)
 (.skip)
 (.exit 0)))
 (.seq (.block 1 (.seq (.aq [ag 11 0,ag 12 3,hR 13 11 12,fY 14 13,bR 15 14,⟨some 16,.call 38 [(.t 15)],none,[15]⟩,⟨some 17,.bin (.int .neq) (.t 16) (.c (.int .i64 7)),none,[16]⟩,ag 18 17,fJ 19 0 18,fJ 20 3 18,w8 21 19 20 18,i' 22 21 18,⟨some 23,.call 39 [(.t 22)],(some (18,false)),[22,18]⟩,pd 24 23 18,eI 25 18 24])
 (.cond (.t 25)
 (.seq (.aq [xa 2])
 (.ret))
 (.skip))))
 (.aq [ag 9 3,eH 10 9,ag 3 10]))
def G9:bB:=
 .seq (.seq (.aq [ag 26 4,ag 27 0,eS 28 27,fX 29 26 28])
 (.cond (.t 29)
 (.skip)
 (.exit 2)))
 (.seq (.block 3 (.seq (.aq [ag 32 0,ag 33 4,hR 34 32 33,ea 35 34,⟨some 36,.call 14 [(.t 35)],none,[35]⟩,⟨some 37,.bin (.int .gtr) (.t 36) (.c (.int .i64 200)),none,[36]⟩])
 (.cond (.t 37)
 (.seq (.aq [⟨some 2,.dk (.c (.int .i64 260)),none,[]⟩])
 (.ret))
 (.skip))))
 (.aq [ag 30 4,eH 31 30,ag 4 31]))
def Bv:bB:=
 .seq (.aq [dX 2])
 (.seq (.seq (.aq [dX 3])
 (.block 0 (.loop G8)))
 (.seq (.seq (.aq [dX 4])
 (.block 2 (.loop G9)))
 (.seq (.aq [dX 2])
 (.ret))))
theorem PH:b6 Tryz.prog Tryz.f12.ntmps (Tryz.f12.body.getD .skip)=Bv:=by kernel_rfl
theorem PI:cH Tryz.prog Tryz.f12.ntmps Tryz.f12.results.toList=[.t 2]:=by kernel_rfl
theorem PG {args:List V} {h:ae} {K:V→ae→Prop} (ai:Nat.ble args.length 38=true) (H:b5 Tryz.prog Bv (aS.bk args) h fun e r aa=>e.ends∧∃ab,cB r aa [.t 2]=some ab∧K (oneOf ab) aa):bF Tryz.prog 12 args h K:=
 df follows c2 Tryz.func12 (c:=Tryz.f12.body.getD .skip) (by kernel_rfl) (by kernel_rfl) (by kernel_rfl) ai PH PI (by kernel_rfl) H
def G':bB:=
 .seq (.aq [fX 10 9 8])
 (.seq (.cond (.t 10)
 (.skip)
 (.exit 0))
 (.seq (.block 1 (.seq (.aq [hR 11 7 9,ea 12 11,nN 5,⟨none,.st 5 (.t 5) (.t 12),none,[5,12]⟩])
 (.aq [ag 13 3,ea 14 5,⟨some 15,.call 13 [(.t 14)],none,[14]⟩,⟨some 16,.dt [(.t 13),(.t 15)],none,[13,15]⟩,ag 3 16])))
 (.aq [eH 17 9,ag 9 17])))
def Bw:bB:=
 .seq (.aq [hA 1 0,dX 2])
 (.seq (.aq [dX 3])
 (.seq (.seq (.aq [ix 6 1,bR 7 6,eS 8 7,dX 9])
 (.block 0 (.loop G')))
 (.seq (.aq [ag 18 3,eH 19 18,ag 2 19])
 (.ret))))
theorem PK:b6 Tryz.prog Tryz.f13.ntmps (Tryz.f13.body.getD .skip)=Bw:=by kernel_rfl
theorem PL:cH Tryz.prog Tryz.f13.ntmps Tryz.f13.results.toList=[.t 2]:=by kernel_rfl
theorem PJ {args:List V} {h:ae} {K:V→ae→Prop} (ai:Nat.ble args.length 20=true) (H:b5 Tryz.prog Bw (aS.bk args) h fun e r aa=>e.ends∧∃ab,cB r aa [.t 2]=some ab∧K (oneOf ab) aa):bF Tryz.prog 13 args h K:=
 df follows c2 Tryz.func13 (c:=Tryz.f13.body.getD .skip) (by kernel_rfl) (by kernel_rfl) (by kernel_rfl) ai PK PL (by kernel_rfl) H
def G_:bB:=
 .seq (.seq (.aq [ag 5 4,ix 6 1,bR 7 6,eS 8 7,fX 9 5 8])
 (.cond (.t 9)
 (.skip)
 (.exit 0)))
 (.seq (.block 1 (.aq [ag 12 3,ix 13 1,bR 14 13,ag 15 4,hR 16 14 15,ea 17 16,⟨some 18,.call 14 [(.t 17)],none,[17]⟩,⟨some 19,.dt [(.t 12),(.t 18)],none,[12,18]⟩,ag 3 19]))
 (.aq [ag 10 4,eH 11 10,ag 4 11]))
def Bx:bB:=
 .seq (.aq [hA 1 0,dX 2])
 (.seq (.aq [dX 3])
 (.seq (.seq (.aq [dX 4])
 (.block 0 (.loop G_)))
 (.seq (.aq [ag 20 3,eH 21 20,ag 2 21])
 (.ret))))
theorem PN:b6 Tryz.prog Tryz.f14.ntmps (Tryz.f14.body.getD .skip)=Bx:=by kernel_rfl
theorem PO:cH Tryz.prog Tryz.f14.ntmps Tryz.f14.results.toList=[.t 2]:=by kernel_rfl
theorem PM {args:List V} {h:ae} {K:V→ae→Prop} (ai:Nat.ble args.length 22=true) (H:b5 Tryz.prog Bx (aS.bk args) h fun e r aa=>e.ends∧∃ab,cB r aa [.t 2]=some ab∧K (oneOf ab) aa):bF Tryz.prog 14 args h K:=
 df follows c2 Tryz.func14 (c:=Tryz.f14.body.getD .skip) (by kernel_rfl) (by kernel_rfl) (by kernel_rfl) ai PN PO (by kernel_rfl) H
def Bz:bB:=
 .skip
def BA:bB:=
 .block 1 (.aq [bR 7 3,eH 8 7,⟨none,.st 1 (.t 3) (.t 8),none,[3,8]⟩])
def By:bB:=
 .seq (.aq [hA 1 0,dX 2])
 (.seq (.aq [⟨some 3,.new [(.int .i64 0)],none,[]⟩,⟨none,.st 1 (.t 3) (.c (.int .i64 0)),none,[3]⟩])
 (.seq (.seq (.aq [ea 4 1,⟨some 5,.call 40 [(.t 4)],none,[4]⟩])
 (.block 0 (bB.range (.t 5) [6] 10 Bz BA)))
 (.seq (.aq [bR 9 3,ag 2 9])
 (.ret))))
theorem PR:b6 Tryz.prog Tryz.f15.ntmps (Tryz.f15.body.getD .skip)=By:=by kernel_rfl
theorem PS:cH Tryz.prog Tryz.f15.ntmps Tryz.f15.results.toList=[.t 2]:=by kernel_rfl
theorem PQ {args:List V} {h:ae} {K:V→ae→Prop} (ai:Nat.ble args.length 10=true) (H:b5 Tryz.prog By (aS.bk args) h fun e r aa=>e.ends∧∃ad,pV (r d_).list aa=some ad∧∃ab,cB r ad [.t 2]=some ab∧K (oneOf ab) ad):bF Tryz.prog 15 args h K:=
 Sr follows c2 Tryz.func15 (c:=Tryz.f15.body.getD .skip) (by kernel_rfl) (by kernel_rfl) (by kernel_rfl) ai PR PS H
def Ha:bB:=
 .seq (.seq (.aq [ag 5 4,ix 6 1,bR 7 6,eS 8 7,fX 9 5 8])
 (.cond (.t 9)
 (.skip)
 (.exit 0)))
 (.seq (.block 1 (.aq [ag 12 3,ix 13 1,bR 14 13,ag 15 4,hR 16 14 15,ea 17 16,⟨some 18,.call 16 [(.t 17)],none,[17]⟩,sh 19 12 18,ag 3 19]))
 (.aq [ag 10 4,eH 11 10,ag 4 11]))
def BB:bB:=
 .seq (.aq [hA 1 0,dX 2])
 (.seq (.aq [uD 3])
 (.seq (.seq (.aq [dX 4])
 (.block 0 (.loop Ha)))
 (.seq (.aq [ag 20 3,ag 2 20])
 (.ret))))
theorem PU:b6 Tryz.prog Tryz.f16.ntmps (Tryz.f16.body.getD .skip)=BB:=by kernel_rfl
theorem PV:cH Tryz.prog Tryz.f16.ntmps Tryz.f16.results.toList=[.t 2]:=by kernel_rfl
theorem PT {args:List V} {h:ae} {K:V→ae→Prop} (ai:Nat.ble args.length 21=true) (H:b5 Tryz.prog BB (aS.bk args) h fun e r aa=>e.ends∧∃ab,cB r aa [.t 2]=some ab∧K (oneOf ab) aa):bF Tryz.prog 16 args h K:=
 df follows c2 Tryz.func16 (c:=Tryz.f16.body.getD .skip) (by kernel_rfl) (by kernel_rfl) (by kernel_rfl) ai PU PV (by kernel_rfl) H
def Hb:bB:=
 .seq (.seq (.aq [ag 11 5,ag 12 0,eS 13 12,fX 14 11 13])
 (.cond (.t 14)
 (.skip)
 (.exit 0)))
 (.seq (.block 1 (.seq (.draw [ag 17 0,ag 18 5,hR 19 17 18,ea 20 19,ag 21 1,ag 22 5,hR 23 21 22,ea 24 23,⟨some 25,.call 20 [(.t 20),(.t 24)],none,[20,24]⟩,nO 26 25] [(3,[8]),(7,[8])])
 (.cond (.t 26)
 (.seq (.aq [dj 4])
 (.ret))
 (.skip))))
 (.aq [ag 15 5,eH 16 15,ag 5 16]))
def n_:bB:=
 .seq (.aq [dj 4])
 (.seq (.seq (.aq [ag 6 0,eS 7 6,ag 8 1,eS 9 8,⟨some 10,.bin (.int .neq) (.t 7) (.t 9),none,[7,9]⟩])
 (.cond (.t 10)
 (.seq (.aq [dj 4])
 (.ret))
 (.skip)))
 (.seq (.seq (.aq [dX 5])
 (.block 0 (.loop Hb)))
 (.seq (.aq [si 4])
 (.ret))))
theorem PX:b6 Tryz.prog Tryz.f17.ntmps (Tryz.f17.body.getD .skip)=n_:=by kernel_rfl
theorem PY:cH Tryz.prog Tryz.f17.ntmps Tryz.f17.results.toList=[.t 4]:=by kernel_rfl
theorem PW {args:List V} {h:ae} {K:V→ae→Prop} (ai:Nat.ble args.length 27=true) (H:b5 Tryz.prog n_ (aS.bk args) h fun e r aa=>e.ends∧∃ab,cB r aa [.t 4]=some ab∧K (oneOf ab) aa):bF Tryz.prog 17 args h K:=
 df follows c2 Tryz.func17 (c:=Tryz.f17.body.getD .skip) (by kernel_rfl) (by kernel_rfl) (by kernel_rfl) ai PX PY (by kernel_rfl) H
def BC:bB:=
 .seq (.aq [hA 2 0,hA 3 1,dj 4])
 (.seq (.aq [fY 5 2,bR 6 5,fY 7 3,bR 8 7,w' 9 6 8,ag 10 9,pe 11 2 10,gN 12 11 10,pe 13 3 10,gN 14 13 10,uE 15 12 14 10,dx 16 10 15,ag 17 16,⟨some 18,.e2 2 (.t 2),(some (17,true)),[2,17]⟩,gN 19 18 17,⟨some 20,.e2 2 (.t 3),(some (17,true)),[3,17]⟩,gN 21 20 17,uE 22 19 21 17,dx 23 17 22,ag 24 23,⟨some 25,.e2 3 (.t 2),(some (24,true)),[2,24]⟩,gN 26 25 24,⟨some 27,.e2 3 (.t 3),(some (24,true)),[3,24]⟩,gN 28 27 24,⟨some 29,.bin (.str .eql) (.t 26) (.t 28),(some (24,true)),[26,28,24]⟩,dx 30 24 29,ag 31 30,xb 32 2 31,gN 33 32 31,xb 34 3 31,gN 35 34 31,⟨some 36,.call 17 [(.t 33),(.t 35)],(some (31,true)),[33,35,31]⟩,dx 37 31 36,ag 4 37])
 (.ret))
theorem P0:b6 Tryz.prog Tryz.f20.ntmps (Tryz.f20.body.getD .skip)=BC:=by kernel_rfl
theorem P1:cH Tryz.prog Tryz.f20.ntmps Tryz.f20.results.toList=[.t 4]:=by kernel_rfl
theorem PZ {args:List V} {h:ae} {K:V→ae→Prop} (ai:Nat.ble args.length 38=true) (H:b5 Tryz.prog BC (aS.bk args) h fun e r aa=>e.ends∧∃ab,cB r aa [.t 4]=some ab∧K (oneOf ab) aa):bF Tryz.prog 20 args h K:=
 df follows c2 Tryz.func20 (c:=Tryz.f20.body.getD .skip) (by kernel_rfl) (by kernel_rfl) (by kernel_rfl) ai P0 P1 (by kernel_rfl) H
def Hc:bB:=
 .seq (.seq (.aq [ag 7 6,ag 8 0,eS 9 8,fX 10 7 9,ag 11 10,dc 12 5 11,dc 13 1 11,⟨some 14,.bin (.int .leq) (.t 12) (.t 13),(some (11,true)),[12,13,11]⟩,dx 15 11 14])
 (.cond (.t 15)
 (.skip)
 (.exit 0)))
 (.seq (.block 1 (.seq (.aq [ag 18 5,eH 19 18,ag 20 0,ag 21 6,hR 22 20 21,nP 23 22,bR 24 23,iy 25 24,⟨some 26,.bin (.int .quo) (.t 25) (.c (.int .i64 100)),none,[25]⟩,sh 27 19 26,ag 5 27])
 (.aq [ag 28 5,ag 29 0,ag 30 6,hR 31 29 30,ix 32 31,bR 33 32,ag 34 1,ag 35 5,sj 36 34 35,⟨some 37,.call 33 [(.t 33),(.t 36)],none,[33,36]⟩,sh 38 28 37,ag 5 38])))
 (.aq [ag 16 6,eH 17 16,ag 6 17]))
def BD:bB:=
 .seq (.aq [dX 4])
 (.seq (.aq [dX 5])
 (.seq (.seq (.aq [dX 6])
 (.block 0 (.loop Hc)))
 (.seq (.aq [ag 39 5,ag 4 39])
 (.ret))))
theorem P3:b6 Tryz.prog Tryz.f33.ntmps (Tryz.f33.body.getD .skip)=BD:=by kernel_rfl
theorem P4:cH Tryz.prog Tryz.f33.ntmps Tryz.f33.results.toList=[.t 4]:=by kernel_rfl
theorem P2 {args:List V} {h:ae} {K:V→ae→Prop} (ai:Nat.ble args.length 40=true) (H:b5 Tryz.prog BD (aS.bk args) h fun e r aa=>e.ends∧∃ab,cB r aa [.t 4]=some ab∧K (oneOf ab) aa):bF Tryz.prog 33 args h K:=
 df follows c2 Tryz.func33 (c:=Tryz.f33.body.getD .skip) (by kernel_rfl) (by kernel_rfl) (by kernel_rfl) ai P3 P4 (by kernel_rfl) H
def BE:bB:=
 .seq (.aq [dX 2])
 (.seq (.block 0 (.seq (.aq [ag 4 0,AI 5 4,ag 6 5,dc 7 0 6,⟨some 8,.bin (.int .leq) (.t 7) (.c (.int .i64 4)),(some (6,true)),[7,6]⟩,dx 9 6 8,ag 3 9])
 (.cond (.t 3)
 (.seq (.aq [uD 2])
 (.ret))
 (.seq (.aq [ag 11 0,⟨some 12,.bin (.int .geq) (.t 11) (.c (.int .i64 10)),none,[11]⟩,ag 13 12,dc 14 0 13,⟨some 15,.bin (.int .leq) (.t 14) (.c (.int .i64 16)),(some (13,true)),[14,13]⟩,dx 16 13 15,ag 10 16])
 (.cond (.t 10)
 (.seq (.aq [xa 2])
 (.ret))
 (.seq (.aq [ag 18 0,⟨some 19,.bin (.int .geq) (.t 18) (.c (.int .i64 20)),none,[18]⟩,ag 20 19,dc 21 0 20,⟨some 22,.bin (.int .leq) (.t 21) (.c (.int .i64 39)),(some (20,true)),[21,20]⟩,dx 23 20 22,ag 17 23])
 (.cond (.t 17)
 (.seq (.aq [⟨some 2,.dk (.c (.int .i64 3)),none,[]⟩])
 (.ret))
 (.seq (.aq [ag 25 0,AJ 26 25,ag 24 26])
 (.cond (.t 24)
 (.seq (.aq [⟨some 2,.dk (.c (.int .i64 4)),none,[]⟩])
 (.ret))
 (.seq (.aq [ag 28 0,xc 29 28,ag 27 29])
 (.cond (.t 27)
 (.seq (.aq [⟨some 2,.dk (.c (.int .i64 5)),none,[]⟩])
 (.ret))
 (.seq (.aq [ag 31 0,xd 32 31,ag 30 32])
 (.cond (.t 30)
 (.seq (.aq [⟨some 2,.dk (.c (.int .i64 6)),none,[]⟩])
 (.ret))
 (.seq (.aq [ag 34 0,⟨some 35,.bin (.int .geq) (.t 34) (.c (.int .i64 50)),none,[34]⟩,ag 36 35,dc 37 0 36,⟨some 38,.bin (.int .leq) (.t 37) (.c (.int .i64 53)),(some (36,true)),[37,36]⟩,dx 39 36 38,ag 33 39])
 (.cond (.t 33)
 (.seq (.aq [⟨some 2,.dk (.c (.int .i64 7)),none,[]⟩])
 (.ret))
 (.skip))))))))))))))))
 (.seq (.aq [dX 2])
 (.ret)))
theorem P6:b6 Tryz.prog Tryz.f36.ntmps (Tryz.f36.body.getD .skip)=BE:=by kernel_rfl
theorem P7:cH Tryz.prog Tryz.f36.ntmps Tryz.f36.results.toList=[.t 2]:=by kernel_rfl
theorem P5 {args:List V} {h:ae} {K:V→ae→Prop} (ai:Nat.ble args.length 40=true) (H:b5 Tryz.prog BE (aS.bk args) h fun e r aa=>e.ends∧∃ab,cB r aa [.t 2]=some ab∧K (oneOf ab) aa):bF Tryz.prog 36 args h K:=
 df follows c2 Tryz.func36 (c:=Tryz.f36.body.getD .skip) (by kernel_rfl) (by kernel_rfl) (by kernel_rfl) ai P6 P7 (by kernel_rfl) H
def Hd:bB:=
 .seq (.aq [fX 88 87 86])
 (.seq (.cond (.t 88)
 (.skip)
 (.exit 0))
 (.seq (.block 1 (.seq (.aq [ag 89 87,hR 90 85 87,ea 91 90,nN 10,ag 9 89,⟨none,.st 5 (.t 10) (.t 91),none,[10,91]⟩])
 (.seq (.aq [dN 92 5,bR 93 92,ag 11 93])
 (.seq (.block 2 (.seq (.aq [ag 95 9,ag 96 7,eS 97 96,fX 98 95 97,ag 94 98])
 (.cond (.t 94)
 (.aq [ag 99 7,ag 100 9,lY 101 99 100,bR 102 101,ag 11 102])
 (.seq (.aq [ag 104 9,ag 105 7,eS 106 105,ag 107 8,sh 108 106 107,sk 109 104 108,ag 103 109])
 (.cond (.t 103)
 (.aq [ix 110 5,bR 111 110,ag 112 9,ag 113 7,eS 114 113,sj 115 112 114,ag 116 8,sj 117 115 116,lY 118 111 117,bR 119 118,ag 11 119])
 (.skip))))))
 (.seq (.aq [ea 120 10,ag 121 11,⟨some 122,.call 48 [(.t 120),(.t 121)],none,[120,121]⟩,nO 123 122,ag 124 123,fJ 125 0 124,i' 126 10 124,⟨some 127,.call 37 [(.t 125),(.t 126)],(some (124,false)),[125,126,124]⟩,pd 128 127 124,eI 129 124 128])
 (.cond (.t 129)
 (.seq (.aq [dj 4])
 (.ret))
 (.skip)))))))
 (.aq [eH 130 87,ag 87 130])))
def BF:bB:=
 .seq (.aq [hA 3 1,dj 4])
 (.seq (.aq [ag 13 0,fY 14 3,bR 15 14,⟨some 16,.look .int (.agg [.cq,(.int .i64 0),(.int .i64 0),(.int .i64 0),.cq,(.int .i64 0),(.int .i64 0),(.int .i64 0)]) true (.t 13) (.t 15),none,[13,15]⟩,ag 12 16,pf 17 12,pg 18 12,⟨some 5,.new [.cq,(.int .i64 0),(.int .i64 0),(.int .i64 0),.cq,(.int .i64 0),(.int .i64 0),(.int .i64 0)],none,[]⟩,⟨none,.st 8 (.t 5) (.t 17),none,[5,17]⟩,ag 6 18])
 (.seq (.seq (.aq [ag 19 6,nO 20 19,ag 21 20,⟨some 22,.e2 1 (.t 3),(some (21,false)),[3,21]⟩,kG 23 22 21,⟨some 24,.e2 5 (.t 5),(some (21,false)),[5,21]⟩,⟨some 25,.pN 2 1 (.t 24) (.c (.int .i64 0)),(some (21,false)),[24,21]⟩,kG 26 25 21,⟨some 27,.bin (.int .lss) (.t 23) (.t 26),(some (21,false)),[23,26,21]⟩,eI 28 21 27,ag 29 28,⟨some 30,.e2 1 (.t 3),(some (29,false)),[3,29]⟩,kG 31 30 29,⟨some 32,.e2 5 (.t 5),(some (29,false)),[5,29]⟩,⟨some 33,.pN 2 1 (.t 32) (.c (.int .i64 1)),(some (29,false)),[32,29]⟩,kG 34 33 29,AH 35 31 34 29,eI 36 29 35,ag 37 36,xe 38 3 37,kG 39 38 37,⟨some 40,.bin (.int .lss) (.t 39) (.c (.int .i64 0)),(some (37,false)),[39,37]⟩,eI 41 37 40,ag 42 41,xe 43 3 42,kG 44 43 42,⟨some 45,.bin (.int .gtr) (.t 44) (.c (.int .i64 65536)),(some (42,false)),[44,42]⟩,eI 46 42 45,ag 47 46,⟨some 48,.e2 7 (.t 5),(some (47,false)),[5,47]⟩,kG 49 48 47,⟨some 50,.e2 3 (.t 3),(some (47,false)),[3,47]⟩,kG 51 50 47,⟨some 52,.call 46 [(.t 49),(.t 51)],(some (47,false)),[49,51,47]⟩,pd 53 52 47,eI 54 47 53])
 (.cond (.t 54)
 (.seq (.aq [dj 4])
 (.ret))
 (.skip)))
 (.seq (.aq [fY 55 5,bR 56 55,ag 7 56])
 (.seq (.seq (.aq [fY 57 3,bR 58 57,xf 59 58])
 (.cond (.t 59)
 (.aq [⟨some 60,.gZ 1 1 [(.int .i64 0)] [(0,1,(.c (.int .i64 8)))],none,[]⟩,dN 61 3,bR 62 61,⟨some 63,.call 47 [(.t 60),(.t 62)],none,[60,62]⟩,ag 7 63])
 (.skip)))
 (.seq (.aq [ix 64 3,bR 65 64,eS 66 65,ag 67 7,eS 68 67,sj 69 66 68,ix 70 5,bR 71 70,eS 72 71,sj 73 69 72,ag 8 73])
 (.seq (.seq (.aq [ag 74 8,kH 75 5,bR 76 75,fX 77 74 76,ag 78 77,fJ 79 8 78,⟨some 80,.e2 3 (.t 5),(some (78,false)),[5,78]⟩,kG 81 80 78,AH 82 79 81 78,eI 83 78 82])
 (.cond (.t 83)
 (.seq (.aq [dj 4])
 (.ret))
 (.skip)))
 (.seq (.seq (.aq [ix 84 3,bR 85 84,eS 86 85,dX 87])
 (.block 0 (.loop Hd)))
 (.seq (.aq [si 4])
 (.ret)))))))))
theorem P9:b6 Tryz.prog Tryz.f37.ntmps (Tryz.f37.body.getD .skip)=BF:=by kernel_rfl
theorem P':cH Tryz.prog Tryz.f37.ntmps Tryz.f37.results.toList=[.t 4]:=by kernel_rfl
theorem P8 {args:List V} {h:ae} {K:V→ae→Prop} (ai:Nat.ble args.length 131=true) (H:b5 Tryz.prog BF (aS.bk args) h fun e r aa=>e.ends∧∃ab,cB r aa [.t 4]=some ab∧K (oneOf ab) aa):bF Tryz.prog 37 args h K:=
 df follows c2 Tryz.func37 (c:=Tryz.f37.body.getD .skip) (by kernel_rfl) (by kernel_rfl) (by kernel_rfl) ai P9 P' (by kernel_rfl) H
def BG:bB:=
 .seq (.aq [dX 2])
 (.seq (.block 0 (.seq (.aq [ag 4 0,AI 5 4,ag 6 5,dc 7 0 6,⟨some 8,.bin (.int .leq) (.t 7) (.c (.int .i64 4)),(some (6,true)),[7,6]⟩,dx 9 6 8,ag 3 9])
 (.cond (.t 3)
 (.seq (.aq [uD 2])
 (.ret))
 (.seq (.aq [ag 11 0,⟨some 12,.bin (.int .geq) (.t 11) (.c (.int .i64 10)),none,[11]⟩,ag 13 12,dc 14 0 13,⟨some 15,.bin (.int .leq) (.t 14) (.c (.int .i64 16)),(some (13,true)),[14,13]⟩,dx 16 13 15,ag 10 16])
 (.cond (.t 10)
 (.seq (.aq [xa 2])
 (.ret))
 (.seq (.aq [ag 18 0,⟨some 19,.bin (.int .geq) (.t 18) (.c (.int .i64 20)),none,[18]⟩,ag 20 19,dc 21 0 20,⟨some 22,.bin (.int .leq) (.t 21) (.c (.int .i64 39)),(some (20,true)),[21,20]⟩,dx 23 20 22,ag 17 23])
 (.cond (.t 17)
 (.seq (.aq [⟨some 2,.dk (.c (.int .i64 3)),none,[]⟩])
 (.ret))
 (.seq (.aq [ag 25 0,AJ 26 25,ag 24 26])
 (.cond (.t 24)
 (.seq (.aq [⟨some 2,.dk (.c (.int .i64 4)),none,[]⟩])
 (.ret))
 (.seq (.aq [ag 28 0,xc 29 28,ag 27 29])
 (.cond (.t 27)
 (.seq (.aq [⟨some 2,.dk (.c (.int .i64 5)),none,[]⟩])
 (.ret))
 (.seq (.aq [ag 31 0,xd 32 31,ag 30 32])
 (.cond (.t 30)
 (.seq (.aq [⟨some 2,.dk (.c (.int .i64 6)),none,[]⟩])
 (.ret))
 (.seq (.aq [ag 34 0,⟨some 35,.bin (.int .geq) (.t 34) (.c (.int .i64 50)),none,[34]⟩,ag 36 35,dc 37 0 36,⟨some 38,.bin (.int .leq) (.t 37) (.c (.int .i64 53)),(some (36,true)),[37,36]⟩,dx 39 36 38,ag 33 39])
 (.cond (.t 33)
 (.seq (.aq [⟨some 2,.dk (.c (.int .i64 7)),none,[]⟩])
 (.ret))
 (.skip))))))))))))))))
 (.seq (.aq [dX 2])
 (.ret)))
theorem Qa:b6 Tryz.prog Tryz.f38.ntmps (Tryz.f38.body.getD .skip)=BG:=by kernel_rfl
theorem Qb:cH Tryz.prog Tryz.f38.ntmps Tryz.f38.results.toList=[.t 2]:=by kernel_rfl
theorem P_ {args:List V} {h:ae} {K:V→ae→Prop} (ai:Nat.ble args.length 40=true) (H:b5 Tryz.prog BG (aS.bk args) h fun e r aa=>e.ends∧∃ab,cB r aa [.t 2]=some ab∧K (oneOf ab) aa):bF Tryz.prog 38 args h K:=
 df follows c2 Tryz.func38 (c:=Tryz.f38.body.getD .skip) (by kernel_rfl) (by kernel_rfl) (by kernel_rfl) ai Qa Qb (by kernel_rfl) H
def He:bB:=
 .seq (.seq (.aq [ag 38 5,ix 39 1,bR 40 39,eS 41 40,fX 42 38 41])
 (.cond (.t 42)
 (.skip)
 (.exit 0)))
 (.seq (.block 1 (.seq (.aq [dj 6])
 (.seq (.seq (.aq [ag 45 3,ag 46 5,lY 47 45 46,bR 48 47,⟨some 49,.bin (.int .eql) (.t 48) (.c (.int .i64 8)),none,[48]⟩])
 (.cond (.t 49)
 (.aq [ix 50 1,bR 51 50,ag 52 5,hR 53 51 52,fY 54 53,bR 55 54,qw 56 55,ag 6 56])
 (.draw [ix 57 1,bR 58 57,ag 59 5,hR 60 58 59,fY 61 60,bR 62 61,ag 64 3,ag 65 5,lY 66 64 65,bR 67 66,⟨some 63,.call 38 [(.t 62)],none,[62]⟩,w' 68 63 67,ag 6 68] [(1,[10]),(5,[10]),(9,[10,13])])))
 (.seq (.aq [ag 69 6,nO 70 69,ag 71 70,⟨some 72,.e2 4 (.t 1),(some (71,false)),[1,71]⟩,kG 73 72 71,fJ 74 5 71,w8 75 73 74 71,i' 76 75 71,⟨some 77,.call 39 [(.t 76)],(some (71,false)),[76,71]⟩,pd 78 77 71,eI 79 71 78])
 (.cond (.t 79)
 (.seq (.aq [dj 2])
 (.ret))
 (.skip))))))
 (.aq [ag 43 5,eH 44 43,ag 5 44]))
def BH:bB:=
 .seq (.aq [hA 1 0,dj 2])
 (.seq (.seq (.aq [fY 7 1,bR 8 7,⟨some 9,.call 38 [(.t 8)],none,[8]⟩,qx 10 9,ag 11 10,i' 12 1 11,⟨some 13,.call 49 [(.t 12)],(some (11,false)),[12,11]⟩,pd 14 13 11,eI 15 11 14,ag 16 15,i' 17 1 16,⟨some 18,.call 50 [(.t 17)],(some (16,false)),[17,16]⟩,pd 19 18 16,eI 20 16 19,ag 21 20,xe 22 1 21,kG 23 22 21,⟨some 24,.bin (.int .lss) (.t 23) (.c (.int .i64 0)),(some (21,false)),[23,21]⟩,eI 25 21 24,ag 26 25,xe 27 1 26,kG 28 27 26,⟨some 29,.bin (.int .gtr) (.t 28) (.c (.int .i64 65536)),(some (26,false)),[28,26]⟩,eI 30 26 29])
 (.cond (.t 30)
 (.seq (.aq [dj 2])
 (.ret))
 (.skip)))
 (.seq (.aq [ea 32 1,⟨some 33,.call 51 [(.t 32)],none,[32]⟩,ag 31 33,pf 34 31,pg 35 31,ag 3 34,ag 4 35])
 (.seq (.seq (.aq [ag 36 4,nO 37 36])
 (.cond (.t 37)
 (.seq (.aq [dj 2])
 (.ret))
 (.skip)))
 (.seq (.seq (.aq [dX 5])
 (.block 0 (.loop He)))
 (.seq (.aq [si 2])
 (.ret))))))
theorem Qd:b6 Tryz.prog Tryz.f39.ntmps (Tryz.f39.body.getD .skip)=BH:=by kernel_rfl
theorem Qe:cH Tryz.prog Tryz.f39.ntmps Tryz.f39.results.toList=[.t 2]:=by kernel_rfl
theorem Qc {args:List V} {h:ae} {K:V→ae→Prop} (ai:Nat.ble args.length 80=true) (H:b5 Tryz.prog BH (aS.bk args) h fun e r aa=>e.ends∧∃ab,cB r aa [.t 2]=some ab∧K (oneOf ab) aa):bF Tryz.prog 39 args h K:=
 df follows c2 Tryz.func39 (c:=Tryz.f39.body.getD .skip) (by kernel_rfl) (by kernel_rfl) (by kernel_rfl) ai Qd Qe (by kernel_rfl) H
def BI:bB:=
 .seq (.aq [hA 1 0,⟨some 2,.dk (.c .iQ),none,[]⟩])
 (.seq (.aq [⟨some 3,.fn 52 [(.t 1)],none,[1]⟩,ag 2 3])
 (.ret))
theorem Qj:b6 Tryz.prog Tryz.f40.ntmps (Tryz.f40.body.getD .skip)=BI:=by kernel_rfl
theorem Qk:cH Tryz.prog Tryz.f40.ntmps Tryz.f40.results.toList=[.t 2]:=by kernel_rfl
theorem Qi {args:List V} {h:ae} {K:V→ae→Prop} (ai:Nat.ble args.length 4=true) (H:b5 Tryz.prog BI (aS.bk args) h fun e r aa=>e.ends∧∃ab,cB r aa [.t 2]=some ab∧K (oneOf ab) aa):bF Tryz.prog 40 args h K:=
 df follows c2 Tryz.func40 (c:=Tryz.f40.body.getD .skip) (by kernel_rfl) (by kernel_rfl) (by kernel_rfl) ai Qj Qk (by kernel_rfl) H
def BJ:bB:=
 .seq (.aq [dj 4])
 (.seq (.seq (.aq [ag 5 0])
 (.block 0 (.seq (.aq [qw 7 5,ag 6 7])
 (.cond (.t 6)
 (.seq (.aq [ag 8 1,⟨some 9,.call 62 [(.c (.int .i64 3)),(.t 8)],none,[8]⟩,ag 4 9])
 (.ret))
 (.seq (.aq [qy 11 5,ag 10 11])
 (.cond (.t 10)
 (.seq (.aq [ag 12 1,⟨some 13,.call 62 [(.c (.int .i64 4)),(.t 12)],none,[12]⟩,ag 4 13])
 (.ret))
 (.seq (.aq [sl 15 5,ag 14 15])
 (.cond (.t 14)
 (.seq (.aq [ag 16 1,⟨some 17,.call 62 [(.c (.int .i64 5)),(.t 16)],none,[16]⟩,ag 4 17])
 (.ret))
 (.seq (.aq [AK 19 5,ag 18 19])
 (.cond (.t 18)
 (.seq (.aq [ag 20 1,iy 21 20,⟨some 22,.bin (.int .leq) (.t 21) (.c (.int .i64 4096)),none,[21]⟩,ag 4 22])
 (.ret))
 (.seq (.aq [xg 24 5,ag 23 24])
 (.cond (.t 23)
 (.seq (.aq [Gg 25,ag 26 1,⟨some 27,.call 63 [(.t 25),(.t 26)],none,[25,26]⟩,ag 4 27])
 (.ret))
 (.skip)))))))))))))
 (.seq (.aq [ag 28 1,AL 29 28,ag 4 29])
 (.ret)))
theorem Qm:b6 Tryz.prog Tryz.f46.ntmps (Tryz.f46.body.getD .skip)=BJ:=by kernel_rfl
theorem Qn:cH Tryz.prog Tryz.f46.ntmps Tryz.f46.results.toList=[.t 4]:=by kernel_rfl
theorem Ql {args:List V} {h:ae} {K:V→ae→Prop} (ai:Nat.ble args.length 30=true) (H:b5 Tryz.prog BJ (aS.bk args) h fun e r aa=>e.ends∧∃ab,cB r aa [.t 4]=some ab∧K (oneOf ab) aa):bF Tryz.prog 46 args h K:=
 df follows c2 Tryz.func46 (c:=Tryz.f46.body.getD .skip) (by kernel_rfl) (by kernel_rfl) (by kernel_rfl) ai Qm Qn (by kernel_rfl) H
def Hg:bB:=
 .seq (.seq (.aq [ag 34 8,ag 35 7,eS 36 35,fX 37 34 36])
 (.cond (.t 37)
 (.skip)
 (.exit 0)))
 (.block 1 (.draw [ag 38 8,ag 39 7,ag 40 8,⟨some 41,.fH 1 (.t 39) (some (.t 40)) none none,none,[39,40]⟩,ag 42 7,ag 43 8,⟨some 44,.fH 1 (.t 42) none (some (.t 43)) none,none,[42,43]⟩,⟨some 45,.copy 1 (.t 41) (.t 44),none,[41,44]⟩,sh 46 38 45,ag 8 46] []))
def BK:bB:=
 .seq (.aq [i_ 4])
 (.seq (.seq (.aq [ag 9 1,⟨some 10,.bin (.int .lss) (.t 9) (.c (.int .i64 0)),none,[9]⟩])
 (.cond (.t 10)
 (.aq [⟨some 11,.oE 9 (.c (.str [99,97,110,110,111,116,32,98,101,32,110,101,103,97,116,105,118,101])),none,[]⟩,⟨none,.bad,none,[11]⟩])
 (.skip)))
 (.seq (.aq [ag 13 0,eS 14 13,⟨some 15,.g' (.int .u64) (.t 14),none,[14]⟩,ag 16 1,⟨some 17,.g' (.int .u64) (.t 16),none,[16]⟩,⟨some 18,.call 64 [(.t 15),(.t 17)],none,[15,17]⟩,ag 12 18,pf 19 12,pg 20 12,ag 5 19,ag 6 20])
 (.seq (.seq (.aq [ag 21 5,⟨some 22,.bin (.int .gtr) (.t 21) (.c (.int .u64 0)),none,[21]⟩,ag 23 22,fJ 24 6 23,⟨some 25,.bin (.int .gtr) (.t 24) (.c (.int .u64 9223372036854775807)),(some (23,false)),[24,23]⟩,eI 26 23 25])
 (.cond (.t 26)
 (.aq [⟨some 27,.oE 9 (.c (.str [116,104,101,32,114,101,115,117,108,116,32,111,102,32,40,108,101,110,40,120,41,32,42,32,99,111,117,110,116,41,32,111,118,101,114,102,108,111,119,115])),none,[]⟩,⟨none,.bad,none,[27]⟩])
 (.skip)))
 (.seq (.aq [ag 28 6,⟨some 29,.g' (.int .i64) (.t 28),none,[28]⟩,⟨some 30,.tI 1 [(.int .i64 0)] (.t 29) (.t 29),none,[29,29]⟩,ag 7 30])
 (.seq (.aq [ag 31 7,ag 32 0,⟨some 33,.copy 1 (.t 31) (.t 32),none,[31,32]⟩,ag 8 33])
 (.seq (.block 0 (.loop Hg))
 (.seq (.aq [ag 47 7,ag 4 47])
 (.ret))))))))
theorem Qp:b6 Tryz.prog Tryz.f47.ntmps (Tryz.f47.body.getD .skip)=BK:=by kernel_rfl
theorem Qq:cH Tryz.prog Tryz.f47.ntmps Tryz.f47.results.toList=[.t 4]:=by kernel_rfl
theorem Qo {args:List V} {h:ae} {K:V→ae→Prop} (ai:Nat.ble args.length 48=true) (H:b5 Tryz.prog BK (aS.bk args) h fun e r aa=>e.ends∧∃ab,cB r aa [.t 4]=some ab∧K (oneOf ab) aa):bF Tryz.prog 47 args h K:=
 df follows c2 Tryz.func47 (c:=Tryz.f47.body.getD .skip) (by kernel_rfl) (by kernel_rfl) (by kernel_rfl) ai Qp Qq (by kernel_rfl) H
def BL:bB:=
 .seq (.aq [hA 2 0,dj 4])
 (.seq (.seq (.aq [ag 5 1])
 (.block 0 (.seq (.aq [⟨some 7,.bin (.int .eql) (.t 5) (.c (.int .i64 8)),none,[5]⟩,ag 6 7])
 (.cond (.t 6)
 (.seq (.aq [fY 8 2,bR 9 8,qw 10 9,ag 4 10])
 (.ret))
 (.seq (.aq [⟨some 12,.bin (.int .eql) (.t 5) (.c (.int .i64 9)),none,[5]⟩,ag 11 12])
 (.cond (.t 11)
 (.seq (.aq [fY 13 2,bR 14 13,⟨some 15,.bin (.int .eql) (.t 14) (.c (.int .i64 27)),none,[14]⟩,ag 4 15])
 (.ret))
 (.skip)))))))
 (.seq (.aq [fY 16 2,bR 17 16,⟨some 18,.call 36 [(.t 17)],none,[17]⟩,ag 19 1,w' 20 18 19,ag 4 20])
 (.ret)))
theorem Qs:b6 Tryz.prog Tryz.f48.ntmps (Tryz.f48.body.getD .skip)=BL:=by kernel_rfl
theorem Qt:cH Tryz.prog Tryz.f48.ntmps Tryz.f48.results.toList=[.t 4]:=by kernel_rfl
theorem Qr {args:List V} {h:ae} {K:V→ae→Prop} (ai:Nat.ble args.length 21=true) (H:b5 Tryz.prog BL (aS.bk args) h fun e r aa=>e.ends∧∃ab,cB r aa [.t 4]=some ab∧K (oneOf ab) aa):bF Tryz.prog 48 args h K:=
 df follows c2 Tryz.func48 (c:=Tryz.f48.body.getD .skip) (by kernel_rfl) (by kernel_rfl) (by kernel_rfl) ai Qs Qt (by kernel_rfl) H
def c49:bB:=
 .seq (.aq [hA 1 0,dj 2])
 (.seq (.seq (.aq [fY 3 1,bR 4 3])
 (.block 0 (.seq (.aq [qw 6 4,ag 5 6])
 (.cond (.t 5)
 (.seq (.aq [nP 7 1,bR 8 7,⟨some 9,.call 65 [(.c (.int .i64 5)),(.t 8)],none,[8]⟩,ag 2 9])
 (.ret))
 (.seq (.seq (.aq [qy 11 4,ag 10 11])
 (.cond (.t 10)
 (.skip)
 (.seq (.aq [⟨some 12,.bin (.int .eql) (.t 4) (.c (.int .i64 11)),none,[4]⟩,ag 10 12])
 (.cond (.t 10)
 (.skip)
 (.seq (.aq [⟨some 13,.bin (.int .eql) (.t 4) (.c (.int .i64 24)),none,[4]⟩,ag 10 13])
 (.cond (.t 10)
 (.skip)
 (.seq (.aq [xc 14 4,ag 10 14])
 (.cond (.t 10)
 (.skip)
 (.aq [xf 15 4,ag 10 15])))))))))
 (.cond (.t 10)
 (.seq (.aq [nP 16 1,bR 17 16,⟨some 18,.call 65 [(.c (.int .i64 3)),(.t 17)],none,[17]⟩,ag 2 18])
 (.ret))
 (.seq (.seq (.aq [⟨some 20,.bin (.int .eql) (.t 4) (.c (.int .i64 16)),none,[4]⟩,ag 19 20])
 (.cond (.t 19)
 (.skip)
 (.seq (.aq [⟨some 21,.bin (.int .eql) (.t 4) (.c (.int .i64 25)),none,[4]⟩,ag 19 21])
 (.cond (.t 19)
 (.skip)
 (.seq (.aq [xd 22 4,ag 19 22])
 (.cond (.t 19)
 (.skip)
 (.aq [⟨some 23,.bin (.int .eql) (.t 4) (.c (.int .i64 51)),none,[4]⟩,ag 19 23])))))))
 (.cond (.t 19)
 (.seq (.aq [nP 24 1,bR 25 24,⟨some 26,.call 65 [(.c (.int .i64 4)),(.t 25)],none,[25]⟩,ag 2 26])
 (.ret))
 (.seq (.aq [⟨some 28,.bin (.int .eql) (.t 4) (.c (.int .i64 21)),none,[4]⟩,ag 27 28])
 (.cond (.t 27)
 (.seq (.aq [nP 29 1,bR 30 29,iy 31 30,⟨some 32,.bin (.int .leq) (.t 31) (.c (.int .i64 4096)),none,[31]⟩,ag 2 32])
 (.ret))
 (.seq (.aq [⟨some 34,.bin (.int .eql) (.t 4) (.c (.int .i64 38)),none,[4]⟩,ag 33 34])
 (.cond (.t 33)
 (.seq (.draw [nP 35 1,bR 36 35,⟨some 37,.call 66 [],none,[]⟩,⟨some 38,.call 59 [(.t 36),(.t 37)],none,[36,37]⟩,ag 2 38] [(1,[2,3])])
 (.ret))
 (.skip)))))))))))))
 (.seq (.aq [nP 39 1,bR 40 39,AL 41 40,ag 2 41])
 (.ret)))
theorem Qv:b6 Tryz.prog Tryz.f49.ntmps (Tryz.f49.body.getD .skip)=c49:=by kernel_rfl
theorem Qw:cH Tryz.prog Tryz.f49.ntmps Tryz.f49.results.toList=[.t 2]:=by kernel_rfl
theorem Qu {args:List V} {h:ae} {K:V→ae→Prop} (ai:Nat.ble args.length 42=true) (H:b5 Tryz.prog c49 (aS.bk args) h fun e r aa=>e.ends∧∃ab,cB r aa [.t 2]=some ab∧K (oneOf ab) aa):bF Tryz.prog 49 args h K:=
 df follows c2 Tryz.func49 (c:=Tryz.f49.body.getD .skip) (by kernel_rfl) (by kernel_rfl) (by kernel_rfl) ai Qv Qw (by kernel_rfl) H
def BM:bB:=
 .seq (.aq [hA 1 0,dj 2])
 (.seq (.seq (.aq [fY 3 1,bR 4 3])
 (.block 0 (.seq (.seq (.aq [⟨some 6,.bin (.int .eql) (.t 4) (.c (.int .i64 12)),none,[4]⟩,ag 5 6])
 (.cond (.t 5)
 (.skip)
 (.aq [⟨some 7,.bin (.int .eql) (.t 4) (.c (.int .i64 20)),none,[4]⟩,ag 5 7])))
 (.cond (.t 5)
 (.seq (.aq [dN 8 1,bR 9 8,⟨some 10,.bin (.int .geq) (.t 9) (.c (.int .i64 (-1073741824))),none,[9]⟩,ag 11 10,pe 12 1 11,gN 13 12 11,⟨some 14,.bin (.int .leq) (.t 13) (.c (.int .i64 1073741823)),(some (11,true)),[13,11]⟩,dx 15 11 14,ag 2 15])
 (.ret))
 (.seq (.seq (.aq [⟨some 17,.bin (.int .eql) (.t 4) (.c (.int .i64 14)),none,[4]⟩,ag 16 17])
 (.cond (.t 16)
 (.skip)
 (.aq [⟨some 18,.bin (.int .eql) (.t 4) (.c (.int .i64 23)),none,[4]⟩,ag 16 18])))
 (.cond (.t 16)
 (.seq (.aq [dN 19 1,bR 20 19,qx 21 20,ag 22 21,⟨some 23,.e2 1 (.t 1),(some (22,false)),[1,22]⟩,kG 24 23 22,⟨some 25,.bin (.int .eql) (.t 24) (.c (.int .i64 1)),(some (22,false)),[24,22]⟩,eI 26 22 25,ag 2 26])
 (.ret))
 (.seq (.aq [xf 28 4,ag 27 28])
 (.cond (.t 27)
 (.seq (.aq [dN 29 1,bR 30 29,xh 31 30,ag 32 31,pe 33 1 32,gN 34 33 32,⟨some 35,.bin (.int .leq) (.t 34) (.c (.int .i64 64)),(some (32,true)),[34,32]⟩,dx 36 32 35,ag 37 36,pe 38 1 37,gN 39 38 37,xb 40 1 37,gN 41 40 37,⟨some 42,.len .slice (.t 41),(some (37,true)),[41,37]⟩,⟨some 43,.bin (.int .lss) (.t 39) (.t 42),(some (37,true)),[39,42,37]⟩,dx 44 37 43,ag 2 44])
 (.ret))
 (.skip)))))))))
 (.seq (.aq [dN 45 1,bR 46 45,qx 47 46,ag 2 47])
 (.ret)))
theorem Qz:b6 Tryz.prog Tryz.f50.ntmps (Tryz.f50.body.getD .skip)=BM:=by kernel_rfl
theorem QA:cH Tryz.prog Tryz.f50.ntmps Tryz.f50.results.toList=[.t 2]:=by kernel_rfl
theorem Qy {args:List V} {h:ae} {K:V→ae→Prop} (ai:Nat.ble args.length 48=true) (H:b5 Tryz.prog BM (aS.bk args) h fun e r aa=>e.ends∧∃ab,cB r aa [.t 2]=some ab∧K (oneOf ab) aa):bF Tryz.prog 50 args h K:=
 df follows c2 Tryz.func50 (c:=Tryz.f50.body.getD .skip) (by kernel_rfl) (by kernel_rfl) (by kernel_rfl) ai Qz QA (by kernel_rfl) H
def c51:bB:=
 .seq (.aq [hA 1 0,i_ 2,dj 3])
 (.seq (.aq [ix 5 1,bR 6 5,eS 7 6,ag 4 7])
 (.seq (.seq (.aq [fY 8 1,bR 9 8])
 (.block 0 (.seq (.aq [qy 11 9,ag 10 11])
 (.cond (.t 10)
 (.seq (.aq [ag 12 4,⟨some 13,.call 67 [(.c (.int .i64 1)),(.t 12)],none,[12]⟩,ag 14 4,⟨some 15,.bin (.int .leq) (.t 14) (.c (.int .i64 64)),none,[14]⟩,ag 2 13,ag 3 15])
 (.ret))
 (.seq (.seq (.aq [sl 17 9,ag 16 17])
 (.cond (.t 16)
 (.skip)
 (.aq [AK 18 9,ag 16 18])))
 (.cond (.t 16)
 (.seq (.aq [⟨some 19,.call 67 [(.c (.int .i64 1)),(.c (.int .i64 2))],none,[]⟩,ag 20 4,qy 21 20,ag 2 19,ag 3 21])
 (.ret))
 (.seq (.aq [⟨some 23,.bin (.int .eql) (.t 9) (.c (.int .i64 15)),none,[9]⟩,ag 22 23])
 (.cond (.t 22)
 (.seq (.aq [⟨some 24,.call 67 [(.c (.int .i64 2)),(.c (.int .i64 2))],none,[]⟩,ag 25 4,qy 26 25,ag 2 24,ag 3 26])
 (.ret))
 (.seq (.aq [⟨some 28,.bin (.int .eql) (.t 9) (.c (.int .i64 16)),none,[9]⟩,ag 27 28])
 (.cond (.t 27)
 (.seq (.aq [ag 29 4,⟨some 30,.call 67 [(.c (.int .i64 2)),(.t 29)],none,[29]⟩,ag 31 4,AM 32 31,ag 2 30,ag 3 32])
 (.ret))
 (.seq (.aq [⟨some 34,.bin (.int .eql) (.t 9) (.c (.int .i64 25)),none,[9]⟩,ag 33 34])
 (.cond (.t 33)
 (.seq (.aq [ag 35 4,⟨some 36,.call 67 [(.c (.int .i64 3)),(.t 35)],none,[35]⟩,ag 37 4,AM 38 37,ag 2 36,ag 3 38])
 (.ret))
 (.seq (.seq (.aq [⟨some 40,.bin (.int .eql) (.t 9) (.c (.int .i64 26)),none,[9]⟩,ag 39 40])
 (.cond (.t 39)
 (.skip)
 (.seq (.aq [⟨some 41,.bin (.int .eql) (.t 9) (.c (.int .i64 28)),none,[9]⟩,ag 39 41])
 (.cond (.t 39)
 (.skip)
 (.seq (.aq [⟨some 42,.bin (.int .eql) (.t 9) (.c (.int .i64 35)),none,[9]⟩,ag 39 42])
 (.cond (.t 39)
 (.skip)
 (.seq (.aq [⟨some 43,.bin (.int .eql) (.t 9) (.c (.int .i64 37)),none,[9]⟩,ag 39 43])
 (.cond (.t 39)
 (.skip)
 (.aq [⟨some 44,.bin (.int .eql) (.t 9) (.c (.int .i64 38)),none,[9]⟩,ag 39 44])))))))))
 (.cond (.t 39)
 (.seq (.aq [⟨some 45,.call 67 [(.c (.int .i64 3)),(.c (.int .i64 2))],none,[]⟩,ag 46 4,qy 47 46,ag 2 45,ag 3 47])
 (.ret))
 (.seq (.seq (.aq [⟨some 49,.bin (.int .eql) (.t 9) (.c (.int .i64 34)),none,[9]⟩,ag 48 49])
 (.cond (.t 48)
 (.skip)
 (.seq (.aq [⟨some 50,.bin (.int .eql) (.t 9) (.c (.int .i64 36)),none,[9]⟩,ag 48 50])
 (.cond (.t 48)
 (.skip)
 (.aq [⟨some 51,.bin (.int .eql) (.t 9) (.c (.int .i64 39)),none,[9]⟩,ag 48 51])))))
 (.cond (.t 48)
 (.seq (.aq [⟨some 52,.call 67 [(.c (.int .i64 3)),(.c (.int .i64 1))],none,[]⟩,ag 53 4,qw 54 53,ag 2 52,ag 3 54])
 (.ret))
 (.seq (.aq [⟨some 56,.bin (.int .eql) (.t 9) (.c (.int .i64 31)),none,[9]⟩,ag 55 56])
 (.cond (.t 55)
 (.seq (.aq [⟨some 57,.call 67 [(.c (.int .i64 3)),(.c (.int .i64 3))],none,[]⟩,ag 58 4,sl 59 58,ag 2 57,ag 3 59])
 (.ret))
 (.seq (.seq (.aq [⟨some 61,.bin (.int .eql) (.t 9) (.c (.int .i64 27)),none,[9]⟩,ag 60 61])
 (.cond (.t 60)
 (.skip)
 (.seq (.aq [AJ 62 9,ag 60 62])
 (.cond (.t 60)
 (.skip)
 (.aq [⟨some 63,.bin (.int .eql) (.t 9) (.c (.int .i64 52)),none,[9]⟩,ag 60 63])))))
 (.cond (.t 60)
 (.seq (.aq [⟨some 64,.gZ 2 1 [(.int .i64 0)] [(0,1,(.c (.int .i64 2))),(1,1,(.c (.int .i64 3)))],none,[]⟩,ag 65 4,qy 66 65,ag 2 64,ag 3 66])
 (.ret))
 (.seq (.aq [⟨some 68,.bin (.int .eql) (.t 9) (.c (.int .i64 29)),none,[9]⟩,ag 67 68])
 (.cond (.t 67)
 (.seq (.aq [⟨some 69,.gZ 3 1 [(.int .i64 0)] [(0,1,(.c (.int .i64 2))),(1,1,(.c (.int .i64 3))),(2,1,(.c (.int .i64 3)))],none,[]⟩,ag 70 4,sl 71 70,ag 2 69,ag 3 71])
 (.ret))
 (.seq (.aq [⟨some 73,.bin (.int .eql) (.t 9) (.c (.int .i64 30)),none,[9]⟩,ag 72 73])
 (.cond (.t 72)
 (.seq (.aq [ag 74 4,w_ 75 74,⟨some 76,.call 67 [(.c (.int .i64 5)),(.t 75)],none,[75]⟩,⟨some 77,.gZ 1 1 [(.int .i64 0)] [(0,1,(.c (.int .i64 3)))],none,[]⟩,sn 78 76 77,ag 79 4,⟨some 80,.bin (.int .geq) (.t 79) (.c (.int .i64 2)),none,[79]⟩,ag 2 78,ag 3 80])
 (.ret))
 (.seq (.seq (.aq [⟨some 82,.bin (.int .eql) (.t 9) (.c (.int .i64 32)),none,[9]⟩,ag 81 82])
 (.cond (.t 81)
 (.skip)
 (.aq [⟨some 83,.bin (.int .eql) (.t 9) (.c (.int .i64 33)),none,[9]⟩,ag 81 83])))
 (.cond (.t 81)
 (.seq (.aq [⟨some 84,.gZ 1 1 [(.int .i64 0)] [(0,1,(.c (.int .i64 3)))],none,[]⟩,ag 85 4,w_ 86 85,⟨some 87,.call 67 [(.c (.int .i64 4)),(.t 86)],none,[86]⟩,sn 88 84 87,ag 89 4,⟨some 90,.bin (.int .geq) (.t 89) (.c (.int .i64 2)),none,[89]⟩,ag 2 88,ag 3 90])
 (.ret))
 (.seq (.aq [xc 92 9,ag 91 92])
 (.cond (.t 91)
 (.seq (.draw [ag 94 4,qw 95 94,⟨some 93,.call 67 [(.c (.int .i64 3)),(.c (.int .i64 1))],none,[]⟩,ag 96 95,xb 97 1 96,gN 98 97 96,sg 99 98 96,uF 100 99 96,gN 101 100 96,⟨some 102,.bin (.int .eql) (.t 101) (.c (.int .i64 27)),(some (96,true)),[101,96]⟩,dx 103 96 102,ag 2 93,ag 3 103] [(5,[13]),(8,[13])])
 (.ret))
 (.seq (.seq (.aq [xd 105 9,ag 104 105])
 (.cond (.t 104)
 (.skip)
 (.aq [⟨some 106,.bin (.int .eql) (.t 9) (.c (.int .i64 51)),none,[9]⟩,ag 104 106])))
 (.cond (.t 104)
 (.seq (.aq [ag 107 4,⟨some 108,.call 67 [(.c (.int .i64 1)),(.t 107)],none,[107]⟩,ag 109 4,AM 110 109,ag 2 108,ag 3 110])
 (.ret))
 (.seq (.aq [xf 112 9,ag 111 112])
 (.cond (.t 111)
 (.seq (.draw [dN 113 1,bR 114 113,ag 116 4,dN 117 1,bR 118 117,sj 119 116 118,⟨some 115,.call 67 [(.c (.int .i64 8)),(.t 114)],none,[114]⟩,⟨some 120,.call 67 [(.c (.int .i64 6)),(.t 119)],none,[119]⟩,sn 121 115 120,ag 2 121,si 3] [(1,[6]),(4,[6,7])])
 (.ret))
 (.seq (.aq [⟨some 123,.bin (.int .eql) (.t 9) (.c (.int .i64 53)),none,[9]⟩,ag 122 123])
 (.cond (.t 122)
 (.seq (.aq [ag 124 4,⟨some 125,.call 67 [(.c (.int .i64 5)),(.t 124)],none,[124]⟩,ag 126 4,AI 127 126,ag 2 125,ag 3 127])
 (.ret))
 (.skip)))))))))))))))))))))))))))))))))))
 (.seq (.aq [ag 128 4,qx 129 128,i_ 2,ag 3 129])
 (.ret))))
theorem QC:b6 Tryz.prog Tryz.f51.ntmps (Tryz.f51.body.getD .skip)=c51:=by kernel_rfl
theorem QD:cH Tryz.prog Tryz.f51.ntmps Tryz.f51.results.toList=[.t 2,.t 3]:=by kernel_rfl
theorem QB {args:List V} {h:ae} {K:V→ae→Prop} (ai:Nat.ble args.length 130=true) (H:b5 Tryz.prog c51 (aS.bk args) h fun e r aa=>e.ends∧∃ab,cB r aa [.t 2,.t 3]=some ab∧K (oneOf ab) aa):bF Tryz.prog 51 args h K:=
 df follows c2 Tryz.func51 (c:=Tryz.f51.body.getD .skip) (by kernel_rfl) (by kernel_rfl) (by kernel_rfl) ai QC QD (by kernel_rfl) H
def BN:bB:=
 .seq (.aq [hA 2 0])
 (.seq (.aq [⟨some 3,.new [.iQ],none,[]⟩])
 (.seq (.aq [⟨some 4,.fn 53 [(.t 2),(.t 3)],none,[2,3]⟩,⟨none,.st 1 (.t 3) (.t 4),none,[3,4]⟩])
 (.aq [bR 5 3,ea 6 1,⟨some 7,.ll (.t 5) [(.t 6)],none,[5,6]⟩])))
theorem QF:b6 Tryz.prog Tryz.f52.ntmps (Tryz.f52.body.getD .skip)=BN:=by kernel_rfl
theorem QG:cH Tryz.prog Tryz.f52.ntmps Tryz.f52.results.toList=[]:=by kernel_rfl
theorem QE {args:List V} {h:ae} {K:V→ae→Prop} (ai:Nat.ble args.length 8=true) (H:b5 Tryz.prog BN (aS.bk args) h fun e r aa=>e.ends∧∃ab,cB r aa []=some ab∧K (oneOf ab) aa):bF Tryz.prog 52 args h K:=
 df follows c2 Tryz.func52 (c:=Tryz.f52.body.getD .skip) (by kernel_rfl) (by kernel_rfl) (by kernel_rfl) ai QF QG (by kernel_rfl) H
def Hh:bB:=
 .seq (.aq [fX 15 14 13])
 (.seq (.cond (.t 15)
 (.skip)
 (.exit 0))
 (.seq (.block 1 (.seq (.aq [hR 16 12 14,ea 17 16,nN 6,⟨none,.st 5 (.t 6) (.t 17),none,[6,17]⟩])
 (.seq (.aq [bR 18 2,ea 19 6,⟨some 20,.ll (.t 18) [(.t 19)],none,[18,19]⟩,nO 21 20])
 (.cond (.t 21)
 (.seq (.aq [dj 4])
 (.ret))
 (.skip)))))
 (.aq [eH 22 14,ag 14 22])))
def BO:bB:=
 .seq (.aq [hA 3 0,dj 4])
 (.seq (.seq (.aq [bR 7 1,ea 8 3,⟨some 9,.ll (.t 7) [(.t 8)],none,[7,8]⟩,nO 10 9])
 (.cond (.t 10)
 (.seq (.aq [dj 4])
 (.ret))
 (.skip)))
 (.seq (.seq (.aq [ix 11 3,bR 12 11,eS 13 12,dX 14])
 (.block 0 (.loop Hh)))
 (.seq (.aq [si 4])
 (.ret))))
theorem QI:b6 Tryz.prog Tryz.f53.ntmps (Tryz.f53.body.getD .skip)=BO:=by kernel_rfl
theorem QJ:cH Tryz.prog Tryz.f53.ntmps Tryz.f53.results.toList=[.t 4]:=by kernel_rfl
theorem QH {args:List V} {h:ae} {K:V→ae→Prop} (ai:Nat.ble args.length 23=true) (H:b5 Tryz.prog BO (aS.bk args) h fun e r aa=>e.ends∧∃ab,cB r aa [.t 4]=some ab∧K (oneOf ab) aa):bF Tryz.prog 53 args h K:=
 df follows c2 Tryz.func53 (c:=Tryz.f53.body.getD .skip) (by kernel_rfl) (by kernel_rfl) (by kernel_rfl) ai QI QJ (by kernel_rfl) H
def Hi:bB:=
 .seq (.seq (.aq [ag 6 5,ag 7 1,eS 8 7,fX 9 6 8])
 (.cond (.t 9)
 (.skip)
 (.exit 0)))
 (.seq (.block 1 (.seq (.aq [ag 12 1,ag 13 5,lY 14 12 13,bR 15 14,ag 16 0,xi 17 15 16])
 (.cond (.t 17)
 (.seq (.aq [si 4])
 (.ret))
 (.skip))))
 (.aq [ag 10 5,eH 11 10,ag 5 11]))
def BP:bB:=
 .seq (.aq [dj 4])
 (.seq (.seq (.aq [dX 5])
 (.block 0 (.loop Hi)))
 (.seq (.aq [dj 4])
 (.ret)))
theorem QL:b6 Tryz.prog Tryz.f59.ntmps (Tryz.f59.body.getD .skip)=BP:=by kernel_rfl
theorem QM:cH Tryz.prog Tryz.f59.ntmps Tryz.f59.results.toList=[.t 4]:=by kernel_rfl
theorem QK {args:List V} {h:ae} {K:V→ae→Prop} (ai:Nat.ble args.length 18=true) (H:b5 Tryz.prog BP (aS.bk args) h fun e r aa=>e.ends∧∃ab,cB r aa [.t 4]=some ab∧K (oneOf ab) aa):bF Tryz.prog 59 args h K:=
 df follows c2 Tryz.func59 (c:=Tryz.f59.body.getD .skip) (by kernel_rfl) (by kernel_rfl) (by kernel_rfl) ai QL QM (by kernel_rfl) H
def BQ:bB:=
 .seq (.aq [dj 4])
 (.seq (.seq (.aq [ag 7 1,iy 8 7,⟨some 9,.bin (.int .gtr) (.t 8) (.c (.int .i64 64)),none,[8]⟩,ag 10 9,fJ 11 1 10,⟨some 12,.bin (.str .eql) (.t 11) (.c (.str [])),(some (10,false)),[11,10]⟩,eI 13 10 12])
 (.cond (.t 13)
 (.seq (.aq [dj 4])
 (.ret))
 (.skip)))
 (.seq (.seq (.aq [ag 14 0,xg 15 14])
 (.cond (.t 15)
 (.aq [ag 16 1,⟨some 17,.bin (.str .add) (.c (.str [39])) (.t 16),none,[16]⟩,ag 1 17])
 (.skip)))
 (.seq (.aq [ag 19 1,⟨some 20,.call 72 [(.t 19)],none,[19]⟩,ag 18 20,pf 21 18,pg 22 18,⟨some 6,.new [(.int .i64 0),(.int .i64 0)],none,[]⟩,ag 5 21,⟨none,.st 2 (.t 6) (.t 22),none,[6,22]⟩])
 (.seq (.aq [fY 23 6,bR 24 23,qx 25 24,ag 26 25,dc 27 5 26,⟨some 28,.len .slice (.t 27),(some (26,true)),[27,26]⟩,⟨some 29,.bin (.int .eql) (.t 28) (.c (.int .i64 1)),(some (26,true)),[28,26]⟩,dx 30 26 29,ag 31 30,dc 32 5 31,xj 33 32 31,uF 34 33 31,gN 35 34 31,dc 36 0 31,uE 37 35 36 31,dx 38 31 37,ag 39 38,dc 40 5 39,xj 41 40 39,⟨some 42,.e2 2 (.t 41),(some (39,true)),[41,39]⟩,gN 43 42 39,⟨some 44,.bin (.int .eql) (.t 43) (.c (.int .i64 0)),(some (39,true)),[43,39]⟩,dx 45 39 44,ag 46 45,dc 47 5 46,xj 48 47 46,⟨some 49,.e2 3 (.t 48),(some (46,true)),[48,46]⟩,gN 50 49 46,⟨some 51,.len .str (.t 50),(some (46,true)),[50,46]⟩,⟨some 52,.bin (.int .gtr) (.t 51) (.c (.int .i64 0)),(some (46,true)),[51,46]⟩,dx 53 46 52,ag 54 53,dc 55 5 54,xj 56 55 54,⟨some 57,.hY 4 (.t 56),(some (54,true)),[56,54]⟩,dc 58 1 54,⟨some 59,.call 73 [(.t 57),(.t 58)],(some (54,true)),[57,58,54]⟩,dx 60 54 59,ag 4 60])
 (.ret)))))
theorem QO:b6 Tryz.prog Tryz.f62.ntmps (Tryz.f62.body.getD .skip)=BQ:=by kernel_rfl
theorem QP:cH Tryz.prog Tryz.f62.ntmps Tryz.f62.results.toList=[.t 4]:=by kernel_rfl
theorem QN {args:List V} {h:ae} {K:V→ae→Prop} (ai:Nat.ble args.length 61=true) (H:b5 Tryz.prog BQ (aS.bk args) h fun e r aa=>e.ends∧∃ab,cB r aa [.t 4]=some ab∧K (oneOf ab) aa):bF Tryz.prog 62 args h K:=
 df follows c2 Tryz.func62 (c:=Tryz.f62.body.getD .skip) (by kernel_rfl) (by kernel_rfl) (by kernel_rfl) ai QO QP (by kernel_rfl) H
def BR:bB:=
 .seq (.aq [dj 4])
 (.seq (.aq [ag 5 0,ag 6 1,⟨some 7,.call 74 [(.t 5),(.t 6)],none,[5,6]⟩,xh 8 7,ag 4 8])
 (.ret))
theorem QR:b6 Tryz.prog Tryz.f63.ntmps (Tryz.f63.body.getD .skip)=BR:=by kernel_rfl
theorem QS:cH Tryz.prog Tryz.f63.ntmps Tryz.f63.results.toList=[.t 4]:=by kernel_rfl
theorem QQ {args:List V} {h:ae} {K:V→ae→Prop} (ai:Nat.ble args.length 9=true) (H:b5 Tryz.prog BR (aS.bk args) h fun e r aa=>e.ends∧∃ab,cB r aa [.t 4]=some ab∧K (oneOf ab) aa):bF Tryz.prog 63 args h K:=
 df follows c2 Tryz.func63 (c:=Tryz.f63.body.getD .skip) (by kernel_rfl) (by kernel_rfl) (by kernel_rfl) ai QR QS (by kernel_rfl) H
def Hj:bB:=
 .seq (.seq (.aq [ag 13 5,ag 14 1,iy 15 14,fX 16 13 15])
 (.cond (.t 16)
 (.skip)
 (.exit 0)))
 (.seq (.block 1 (.seq (.aq [ag 19 1,ag 20 5,xk 21 19 20,⟨some 22,.call 77 [(.t 21)],none,[21]⟩,nO 23 22])
 (.cond (.t 23)
 (.seq (.aq [dj 4])
 (.ret))
 (.skip))))
 (.aq [ag 17 5,eH 18 17,ag 5 18]))
def BS:bB:=
 .seq (.aq [dj 4])
 (.seq (.seq (.aq [ag 6 1,AL 7 6,ag 8 7,fJ 9 1 8,⟨some 10,.len .str (.t 9),(some (8,false)),[9,8]⟩,⟨some 11,.bin (.int .gtr) (.t 10) (.c (.int .i64 64)),(some (8,false)),[10,8]⟩,eI 12 8 11])
 (.cond (.t 12)
 (.seq (.aq [dj 4])
 (.ret))
 (.skip)))
 (.seq (.seq (.aq [dX 5])
 (.block 0 (.loop Hj)))
 (.seq (.seq (.aq [ag 24 0])
 (.block 2 (.seq (.aq [AK 26 24,ag 25 26])
 (.cond (.t 25)
 (.seq (.aq [ag 27 1,xl 28 27,⟨some 29,.call 78 [(.t 28),(.c (.int .u8 65)),(.c (.int .u8 90))],none,[28]⟩,ag 4 29])
 (.ret))
 (.seq (.aq [xg 31 24,ag 30 31])
 (.cond (.t 30)
 (.seq (.aq [ag 32 1,xl 33 32,AN 34 33,ag 4 34])
 (.ret))
 (.skip)))))))
 (.seq (.aq [ag 35 1,xl 36 35,AN 37 36,ag 38 37,fJ 39 1 38,⟨some 40,.jU (.t 39) (.c (.int .i64 0)),(some (38,false)),[39,38]⟩,xm 41 40 38,eI 42 38 41,ag 43 42,dc 44 1 43,⟨some 45,.bin (.str .neq) (.t 44) (.c (.str [95])),(some (43,true)),[44,43]⟩,dx 46 43 45,ag 47 46,dc 48 1 47,⟨some 49,.call 79 [],(some (47,true)),[47]⟩,⟨some 50,.call 59 [(.t 48),(.t 49)],(some (47,true)),[48,49,47]⟩,⟨some 51,.un .not (.t 50),(some (47,true)),[50,47]⟩,dx 52 47 51,ag 4 52])
 (.ret)))))
theorem QU:b6 Tryz.prog Tryz.f65.ntmps (Tryz.f65.body.getD .skip)=BS:=by kernel_rfl
theorem QV:cH Tryz.prog Tryz.f65.ntmps Tryz.f65.results.toList=[.t 4]:=by kernel_rfl
theorem QT {args:List V} {h:ae} {K:V→ae→Prop} (ai:Nat.ble args.length 53=true) (H:b5 Tryz.prog BS (aS.bk args) h fun e r aa=>e.ends∧∃ab,cB r aa [.t 4]=some ab∧K (oneOf ab) aa):bF Tryz.prog 65 args h K:=
 df follows c2 Tryz.func65 (c:=Tryz.f65.body.getD .skip) (by kernel_rfl) (by kernel_rfl) (by kernel_rfl) ai QU QV (by kernel_rfl) H
def BT:bB:=
 .seq (.aq [i_ 0])
 (.seq (.aq [Gg 1,ag 0 1])
 (.ret))
theorem QX:b6 Tryz.prog Tryz.f66.ntmps (Tryz.f66.body.getD .skip)=BT:=by kernel_rfl
theorem QY:cH Tryz.prog Tryz.f66.ntmps Tryz.f66.results.toList=[.t 0]:=by kernel_rfl
theorem QW {args:List V} {h:ae} {K:V→ae→Prop} (ai:Nat.ble args.length 2=true) (H:b5 Tryz.prog BT (aS.bk args) h fun e r aa=>e.ends∧∃ab,cB r aa [.t 0]=some ab∧K (oneOf ab) aa):bF Tryz.prog 66 args h K:=
 df follows c2 Tryz.func66 (c:=Tryz.f66.body.getD .skip) (by kernel_rfl) (by kernel_rfl) (by kernel_rfl) ai QX QY (by kernel_rfl) H
def Hk:bB:=
 .seq (.seq (.aq [ag 7 6,ag 8 1,fX 9 7 8])
 (.cond (.t 9)
 (.skip)
 (.exit 0)))
 (.seq (.block 1 (.aq [ag 12 5,ag 13 0,⟨some 14,.gZ 1 1 [(.int .i64 0)] [(0,1,(.t 13))],none,[13]⟩,sn 15 12 14,ag 5 15]))
 (.aq [ag 10 6,eH 11 10,ag 6 11]))
def BU:bB:=
 .seq (.aq [i_ 4])
 (.seq (.aq [i_ 5])
 (.seq (.seq (.aq [dX 6])
 (.block 0 (.loop Hk)))
 (.seq (.aq [ag 16 5,ag 4 16])
 (.ret))))
theorem Q0:b6 Tryz.prog Tryz.f67.ntmps (Tryz.f67.body.getD .skip)=BU:=by kernel_rfl
theorem Q1:cH Tryz.prog Tryz.f67.ntmps Tryz.f67.results.toList=[.t 4]:=by kernel_rfl
theorem QZ {args:List V} {h:ae} {K:V→ae→Prop} (ai:Nat.ble args.length 17=true) (H:b5 Tryz.prog BU (aS.bk args) h fun e r aa=>e.ends∧∃ab,cB r aa [.t 4]=some ab∧K (oneOf ab) aa):bF Tryz.prog 67 args h K:=
 df follows c2 Tryz.func67 (c:=Tryz.f67.body.getD .skip) (by kernel_rfl) (by kernel_rfl) (by kernel_rfl) ai Q0 Q1 (by kernel_rfl) H
def BX:bB:=
 .seq (.aq [hA 2 0,dj 4])
 (.seq (.seq (.aq [fY 5 2,bR 6 5,xg 7 6])
 (.cond (.t 7)
 (.seq (.aq [ag 8 1,nP 9 2,bR 10 9,⟨some 11,.bin (.str .add) (.c (.str [39])) (.t 10),none,[10]⟩,xi 12 8 11,ag 4 12])
 (.ret))
 (.skip)))
 (.seq (.aq [ag 13 1,nP 14 2,bR 15 14,xi 16 13 15,ag 4 16])
 (.ret)))
theorem Q6:b6 Tryz.prog Tryz.f73.ntmps (Tryz.f73.body.getD .skip)=BX:=by kernel_rfl
theorem Q7:cH Tryz.prog Tryz.f73.ntmps Tryz.f73.results.toList=[.t 4]:=by kernel_rfl
theorem Q5 {args:List V} {h:ae} {K:V→ae→Prop} (ai:Nat.ble args.length 17=true) (H:b5 Tryz.prog BX (aS.bk args) h fun e r aa=>e.ends∧∃ab,cB r aa [.t 4]=some ab∧K (oneOf ab) aa):bF Tryz.prog 73 args h K:=
 df follows c2 Tryz.func73 (c:=Tryz.f73.body.getD .skip) (by kernel_rfl) (by kernel_rfl) (by kernel_rfl) ai Q6 Q7 (by kernel_rfl) H
def Hm:bB:=
 .seq (.aq [fX 9 8 7])
 (.seq (.cond (.t 9)
 (.skip)
 (.exit 0))
 (.seq (.block 1 (.seq (.aq [ag 10 8,ag 5 10])
 (.seq (.aq [ag 11 1,ag 12 0,ag 13 5,lY 14 12 13,bR 15 14,xi 16 11 15])
 (.cond (.t 16)
 (.seq (.aq [ag 17 5,ag 4 17])
 (.ret))
 (.skip)))))
 (.aq [eH 18 8,ag 8 18])))
def BY:bB:=
 .seq (.aq [dX 4])
 (.seq (.seq (.aq [ag 6 0,eS 7 6,dX 8])
 (.block 0 (.loop Hm)))
 (.seq (.aq [⟨some 4,.dk (.c (.int .i64 (-1))),none,[]⟩])
 (.ret)))
theorem Q9:b6 Tryz.prog Tryz.f74.ntmps (Tryz.f74.body.getD .skip)=BY:=by kernel_rfl
theorem Q':cH Tryz.prog Tryz.f74.ntmps Tryz.f74.results.toList=[.t 4]:=by kernel_rfl
theorem Q8 {args:List V} {h:ae} {K:V→ae→Prop} (ai:Nat.ble args.length 19=true) (H:b5 Tryz.prog BY (aS.bk args) h fun e r aa=>e.ends∧∃ab,cB r aa [.t 4]=some ab∧K (oneOf ab) aa):bF Tryz.prog 74 args h K:=
 df follows c2 Tryz.func74 (c:=Tryz.f74.body.getD .skip) (by kernel_rfl) (by kernel_rfl) (by kernel_rfl) ai Q9 Q' (by kernel_rfl) H
def BZ:bB:=
 .seq (.aq [dj 2])
 (.seq (.aq [ag 3 0,AN 4 3,ag 5 4,fJ 6 0 5,⟨some 7,.call 78 [(.t 6),(.c (.int .u8 65)),(.c (.int .u8 90))],(some (5,false)),[6,5]⟩,eI 8 5 7,ag 9 8,fJ 10 0 9,⟨some 11,.call 78 [(.t 10),(.c (.int .u8 48)),(.c (.int .u8 57))],(some (9,false)),[10,9]⟩,eI 12 9 11,ag 13 12,fJ 14 0 13,xm 15 14 13,eI 16 13 15,ag 17 16,fJ 18 0 17,⟨some 19,.bin (.int .eql) (.t 18) (.c (.int .u8 39)),(some (17,false)),[18,17]⟩,eI 20 17 19,ag 2 20])
 (.ret))
theorem Ra:b6 Tryz.prog Tryz.f77.ntmps (Tryz.f77.body.getD .skip)=BZ:=by kernel_rfl
theorem Rb:cH Tryz.prog Tryz.f77.ntmps Tryz.f77.results.toList=[.t 2]:=by kernel_rfl
theorem Q_ {args:List V} {h:ae} {K:V→ae→Prop} (ai:Nat.ble args.length 21=true) (H:b5 Tryz.prog BZ (aS.bk args) h fun e r aa=>e.ends∧∃ab,cB r aa [.t 2]=some ab∧K (oneOf ab) aa):bF Tryz.prog 77 args h K:=
 df follows c2 Tryz.func77 (c:=Tryz.f77.body.getD .skip) (by kernel_rfl) (by kernel_rfl) (by kernel_rfl) ai Ra Rb (by kernel_rfl) H
def B0:bB:=
 .seq (.aq [dj 6])
 (.seq (.aq [ag 7 0,ag 8 1,sk 9 7 8,ag 10 9,dc 11 0 10,dc 12 2 10,⟨some 13,.bin (.int .leq) (.t 11) (.t 12),(some (10,true)),[11,12,10]⟩,dx 14 10 13,ag 6 14])
 (.ret))
theorem Re:b6 Tryz.prog Tryz.f78.ntmps (Tryz.f78.body.getD .skip)=B0:=by kernel_rfl
theorem Rf:cH Tryz.prog Tryz.f78.ntmps Tryz.f78.results.toList=[.t 6]:=by kernel_rfl
theorem Rc {args:List V} {h:ae} {K:V→ae→Prop} (ai:Nat.ble args.length 15=true) (H:b5 Tryz.prog B0 (aS.bk args) h fun e r aa=>e.ends∧∃ab,cB r aa [.t 6]=some ab∧K (oneOf ab) aa):bF Tryz.prog 78 args h K:=
 df follows c2 Tryz.func78 (c:=Tryz.f78.body.getD .skip) (by kernel_rfl) (by kernel_rfl) (by kernel_rfl) ai Re Rf (by kernel_rfl) H
def B1:bB:=
 .seq (.aq [i_ 0])
 (.seq (.aq [⟨some 1,.gZ 20 1 [(.str [])] [(0,1,(.c (.str [97,110,100]))),(1,1,(.c (.str [98,101,103,105,110]))),(2,1,(.c (.str [101,108,115,101]))),(3,1,(.c (.str [101,110,100]))),(4,1,(.c (.str [101,120,99,101,112,116,105,111,110]))),(5,1,(.c (.str [102,97,108,115,101]))),(6,1,(.c (.str [102,117,110]))),(7,1,(.c (.str [105,102]))),(8,1,(.c (.str [105,110]))),(9,1,(.c (.str [108,101,116]))),(10,1,(.c (.str [109,97,116,99,104]))),(11,1,(.c (.str [109,111,100]))),(12,1,(.c (.str [111,102]))),(13,1,(.c (.str [114,97,105,115,101]))),(14,1,(.c (.str [114,101,99]))),(15,1,(.c (.str [116,104,101,110]))),(16,1,(.c (.str [116,114,117,101]))),(17,1,(.c (.str [116,114,121]))),(18,1,(.c (.str [116,121,112,101]))),(19,1,(.c (.str [119,105,116,104])))],none,[]⟩,ag 0 1])
 (.ret))
theorem Ri:b6 Tryz.prog Tryz.f79.ntmps (Tryz.f79.body.getD .skip)=B1:=by kernel_rfl
theorem Rj:cH Tryz.prog Tryz.f79.ntmps Tryz.f79.results.toList=[.t 0]:=by kernel_rfl
theorem Rh {args:List V} {h:ae} {K:V→ae→Prop} (ai:Nat.ble args.length 2=true) (H:b5 Tryz.prog B1 (aS.bk args) h fun e r aa=>e.ends∧∃ab,cB r aa [.t 0]=some ab∧K (oneOf ab) aa):bF Tryz.prog 79 args h K:=
 df follows c2 Tryz.func79 (c:=Tryz.f79.body.getD .skip) (by kernel_rfl) (by kernel_rfl) (by kernel_rfl) ai Ri Rj (by kernel_rfl) H
def Hl:bB:=
 .block 1 (.seq (.aq [ag 24 5,c' 25 24,dN 26 25,bR 27 26,ag 7 27])
 (.seq (.block 2 (.seq (.aq [ag 37 7,ag 38 0,iy 39 38,sk 40 37 39,ag 36 40])
 (.cond (.t 36)
 (.exit 0)
 (.seq (.aq [ag 42 0,ag 43 7,xk 44 42 43,⟨some 45,.call 92 [(.c (.str [9,10,13,32])),(.t 44)],none,[44]⟩,xh 46 45,ag 41 46])
 (.cond (.t 41)
 (.aq [ag 47 5,c' 48 47,dN 49 48,bR 50 49,eH 51 50,c' 52 47,dN 53 52,⟨none,.st 1 (.t 53) (.t 51),none,[53,51]⟩])
 (.seq (.aq [ag 55 5,⟨some 56,.call 93 [(.t 55),(.c (.str [40,42]))],none,[55]⟩,ag 54 56])
 (.cond (.t 54)
 (.aq [ag 57 5,⟨some 58,.call 94 [(.t 57)],none,[57]⟩])
 (.seq (.aq [ag 28 5,⟨some 29,.call 95 [(.t 28)],none,[28]⟩,uG 8,⟨none,.st 4 (.t 8) (.t 29),none,[8,29]⟩])
 (.seq (.aq [ag 30 7,kH 31 8,⟨none,.st 1 (.t 31) (.t 30),none,[31,30]⟩])
 (.aq [ag 32 6,⟨some 33,.hY 4 (.t 8),none,[8]⟩,⟨some 34,.gZ 1 4 [(.int .i64 0),(.int .i64 0),(.int .i64 0),(.str [])] [(0,4,(.t 33))],none,[33]⟩,⟨some 35,.app 4 (.t 32) (.t 34),none,[32,34]⟩,ag 6 35]))))))))))
 (.seq (.aq [ag 59 5,c' 60 59,kH 61 60,bR 62 61,⟨some 63,.bin (.int .neq) (.t 62) (.c (.int .i64 0)),none,[62]⟩])
 (.cond (.t 63)
 (.seq (.draw [ag 64 5,c' 65 64,kH 66 65,bR 67 66,ag 68 7,⟨some 69,.build [(.int .i64 0),(.int .i64 0)] [(0,1,(.t 67)),(1,1,(.t 68))],none,[67,68]⟩,i_ 2,⟨none,.st 2 (.t 3) (.t 69),none,[3,69]⟩] [(3,[7])])
 (.ret))
 (.skip)))))
def BW:bB:=
 .seq (.aq [i_ 2,⟨some 3,.new [(.int .i64 0),(.int .i64 0)],none,[]⟩])
 (.seq (.seq (.aq [ag 9 0,iy 10 9,⟨some 11,.bin (.int .gtr) (.t 10) (.c (.int .i64 65536)),none,[10]⟩])
 (.cond (.t 11)
 (.seq (.aq [⟨some 12,.build [(.int .i64 0),(.int .i64 0)] [(0,1,(.c (.int .i64 3)))],none,[]⟩,i_ 2,⟨none,.st 2 (.t 3) (.t 12),none,[3,12]⟩])
 (.ret))
 (.skip)))
 (.seq (.seq (.aq [ag 13 0,⟨some 14,.call 91 [(.t 13)],none,[13]⟩,ag 4 14])
 (.seq (.aq [ag 15 4,ag 16 0,iy 17 16,fX 18 15 17])
 (.cond (.t 18)
 (.seq (.aq [ag 19 4,⟨some 20,.build [(.int .i64 0),(.int .i64 0)] [(0,1,(.c (.int .i64 250))),(1,1,(.t 19))],none,[19]⟩,i_ 2,⟨none,.st 2 (.t 3) (.t 20),none,[3,20]⟩])
 (.ret))
 (.skip))))
 (.seq (.aq [ag 21 0,⟨some 22,.build [(.str []),(.int .i64 0),(.int .i64 0)] [(0,1,(.t 21))],none,[21]⟩,hA 23 22,ag 5 23])
 (.seq (.aq [i_ 6])
 (.seq (.skip)
 (.seq (.block 0 (.loop Hl))
 (.seq (.aq [ag 70 6,⟨some 71,.build [(.int .i64 0),(.int .i64 0)] [],none,[]⟩,ag 2 70,⟨none,.st 2 (.t 3) (.t 71),none,[3,71]⟩])
 (.ret))))))))
theorem Q3:b6 Tryz.prog Tryz.f72.ntmps (Tryz.f72.body.getD .skip)=BW:=by kernel_rfl
theorem Q4:cH Tryz.prog Tryz.f72.ntmps Tryz.f72.results.toList=[.t 2,.ln 3 2]:=by kernel_rfl
theorem Q2 {args:List V} {h:ae} {K:V→ae→Prop} (ai:Nat.ble args.length 72=true) (H:b5 Tryz.prog BW (aS.bk args) h fun e r aa=>e.ends∧∃ab,cB r aa [.t 2,.ln 3 2]=some ab∧K (oneOf ab) aa):bF Tryz.prog 72 args h K:=
 df follows c2 Tryz.func72 (c:=Tryz.f72.body.getD .skip) (by kernel_rfl) (by kernel_rfl) (by kernel_rfl) ai Q3 Q4 (by kernel_rfl) H
def Hn:bB:=
 .seq (.aq [⟨some 9,.tP (.t 8),none,[8]⟩,pf 10 9])
 (.seq (.cond (.t 10)
 (.skip)
 (.exit 0))
 (.block 1 (.seq (.aq [pg 11 9,⟨some 12,.ext (.t 9) 2,none,[9]⟩,ag 3 11,ag 4 12])
 (.seq (.aq [ag 13 4,⟨some 14,.bin (.int .eql) (.t 13) (.c (.int .i32 65533)),none,[13]⟩])
 (.cond (.t 14)
 (.seq (.aq [ag 16 0,ag 17 3,AO 18 16 17,⟨some 19,.call 102 [(.t 18)],none,[18]⟩,ag 15 19,pf 20 15,pg 21 15,ag 5 20,ag 6 21])
 (.seq (.aq [ag 22 6,qw 23 22])
 (.cond (.t 23)
 (.seq (.aq [ag 24 3,ag 2 24])
 (.ret))
 (.skip))))
 (.skip))))))
def B2:bB:=
 .seq (.aq [dX 2])
 (.seq (.seq (.aq [ag 7 0,⟨some 8,.ua (.t 7),none,[7]⟩])
 (.block 0 (.loop Hn)))
 (.seq (.aq [ag 25 0,iy 26 25,ag 2 26])
 (.ret)))
theorem Rp:b6 Tryz.prog Tryz.f91.ntmps (Tryz.f91.body.getD .skip)=B2:=by kernel_rfl
theorem Rq:cH Tryz.prog Tryz.f91.ntmps Tryz.f91.results.toList=[.t 2]:=by kernel_rfl
theorem Ro {args:List V} {h:ae} {K:V→ae→Prop} (ai:Nat.ble args.length 27=true) (H:b5 Tryz.prog B2 (aS.bk args) h fun e r aa=>e.ends∧∃ab,cB r aa [.t 2]=some ab∧K (oneOf ab) aa):bF Tryz.prog 91 args h K:=
 df follows c2 Tryz.func91 (c:=Tryz.f91.body.getD .skip) (by kernel_rfl) (by kernel_rfl) (by kernel_rfl) ai Rp Rq (by kernel_rfl) H
def B3:bB:=
 .seq (.aq [dX 4])
 (.seq (.aq [ag 5 0,ag 6 1,⟨some 7,.call 103 [(.t 5),(.t 6)],none,[5,6]⟩,ag 4 7])
 (.ret))
theorem Rs:b6 Tryz.prog Tryz.f92.ntmps (Tryz.f92.body.getD .skip)=B3:=by kernel_rfl
theorem Rt:cH Tryz.prog Tryz.f92.ntmps Tryz.f92.results.toList=[.t 4]:=by kernel_rfl
theorem Rr {args:List V} {h:ae} {K:V→ae→Prop} (ai:Nat.ble args.length 8=true) (H:b5 Tryz.prog B3 (aS.bk args) h fun e r aa=>e.ends∧∃ab,cB r aa [.t 4]=some ab∧K (oneOf ab) aa):bF Tryz.prog 92 args h K:=
 df follows c2 Tryz.func92 (c:=Tryz.f92.body.getD .skip) (by kernel_rfl) (by kernel_rfl) (by kernel_rfl) ai Rs Rt (by kernel_rfl) H
def B4:bB:=
 .seq (.aq [dj 4])
 (.seq (.draw [ag 5 0,c' 6 5,fY 7 6,bR 8 7,ag 9 0,c' 10 9,dN 11 10,bR 12 11,AO 13 8 12,ag 14 1,⟨some 15,.call 104 [(.t 13),(.t 14)],none,[13,14]⟩,ag 4 15] [(3,[10]),(7,[10])])
 (.ret))
theorem Rv:b6 Tryz.prog Tryz.f93.ntmps (Tryz.f93.body.getD .skip)=B4:=by kernel_rfl
theorem Rw:cH Tryz.prog Tryz.f93.ntmps Tryz.f93.results.toList=[.t 4]:=by kernel_rfl
theorem Ru {args:List V} {h:ae} {K:V→ae→Prop} (ai:Nat.ble args.length 16=true) (H:b5 Tryz.prog B4 (aS.bk args) h fun e r aa=>e.ends∧∃ab,cB r aa [.t 4]=some ab∧K (oneOf ab) aa):bF Tryz.prog 93 args h K:=
 df follows c2 Tryz.func93 (c:=Tryz.f93.body.getD .skip) (by kernel_rfl) (by kernel_rfl) (by kernel_rfl) ai Rv Rw (by kernel_rfl) H
def Ho:bB:=
 .block 1 (.block 2 (.seq (.draw [ag 11 0,c' 12 11,dN 13 12,bR 14 13,ag 15 0,c' 16 15,fY 17 16,bR 18 17,iy 19 18,sk 20 14 19,ag 10 20] [])
 (.cond (.t 10)
 (.seq (.aq [ag 21 0,c' 22 21,kH 23 22,⟨none,.st 1 (.t 23) (.c (.int .i64 253)),none,[23]⟩])
 (.ret))
 (.seq (.aq [ag 25 0,⟨some 26,.call 93 [(.t 25),(.c (.str [40,42]))],none,[25]⟩,ag 24 26])
 (.cond (.t 24)
 (.seq (.aq [ag 27 2,eH 28 27,ag 2 28])
 (.aq [ag 29 0,c' 30 29,dN 31 30,bR 32 31,⟨some 33,.bin (.int .add) (.t 32) (.c (.int .i64 2)),none,[32]⟩,c' 34 29,dN 35 34,⟨none,.st 1 (.t 35) (.t 33),none,[35,33]⟩]))
 (.seq (.aq [ag 37 0,⟨some 38,.call 93 [(.t 37),(.c (.str [42,41]))],none,[37]⟩,ag 36 38])
 (.cond (.t 36)
 (.seq (.aq [ag 39 2,w_ 40 39,ag 2 40])
 (.seq (.aq [ag 41 0,c' 42 41,dN 43 42,bR 44 43,⟨some 45,.bin (.int .add) (.t 44) (.c (.int .i64 2)),none,[44]⟩,c' 46 41,dN 47 46,⟨none,.st 1 (.t 47) (.t 45),none,[47,45]⟩])
 (.seq (.aq [ag 48 2,qx 49 48])
 (.cond (.t 49)
 (.ret)
 (.skip)))))
 (.aq [ag 3 0,c' 4 3,dN 5 4,bR 6 5,eH 7 6,c' 8 3,dN 9 8,⟨none,.st 1 (.t 9) (.t 7),none,[9,7]⟩]))))))))
def B5:bB:=
 .seq (.aq [dX 2])
 (.block 0 (.loop Ho))
theorem Ry:b6 Tryz.prog Tryz.f94.ntmps (Tryz.f94.body.getD .skip)=B5:=by kernel_rfl
theorem Rz:cH Tryz.prog Tryz.f94.ntmps Tryz.f94.results.toList=[]:=by kernel_rfl
theorem Rx {args:List V} {h:ae} {K:V→ae→Prop} (ai:Nat.ble args.length 50=true) (H:b5 Tryz.prog B5 (aS.bk args) h fun e r aa=>e.ends∧∃ab,cB r aa []=some ab∧K (oneOf ab) aa):bF Tryz.prog 94 args h K:=
 df follows c2 Tryz.func94 (c:=Tryz.f94.body.getD .skip) (by kernel_rfl) (by kernel_rfl) (by kernel_rfl) ai Ry Rz (by kernel_rfl) H
def Hp:bB:=
 .seq (.aq [fX 80 79 78])
 (.seq (.cond (.t 80)
 (.skip)
 (.exit 1))
 (.seq (.block 2 (.seq (.aq [lY 81 77 79,bR 82 81,ag 5 82])
 (.seq (.aq [ag 83 0,ag 84 5,⟨some 85,.call 93 [(.t 83),(.t 84)],none,[83,84]⟩])
 (.cond (.t 85)
 (.seq (.aq [ag 86 0,c' 87 86,dN 88 87,bR 89 88,ag 90 5,iy 91 90,sh 92 89 91,c' 93 86,dN 94 93,⟨none,.st 1 (.t 94) (.t 92),none,[94,92]⟩])
 (.seq (.aq [ag 95 5,Gh 96 95,⟨none,.st 4 (.t 2) (.t 96),none,[2,96]⟩])
 (.ret)))
 (.skip)))))
 (.aq [eH 97 79,ag 79 97])))
def B6:bB:=
 .seq (.aq [uG 2])
 (.seq (.draw [ag 6 0,c' 7 6,fY 8 7,bR 9 8,ag 10 0,c' 11 10,dN 12 11,bR 13 12,xk 14 9 13,ag 3 14] [])
 (.seq (.block 0 (.seq (.aq [ag 16 3,⟨some 17,.call 105 [(.t 16)],none,[16]⟩,ag 15 17])
 (.cond (.t 15)
 (.seq (.aq [ag 18 0,⟨some 19,.call 106 [(.t 18)],none,[18]⟩,⟨none,.st 4 (.t 2) (.t 19),none,[2,19]⟩])
 (.ret))
 (.seq (.aq [ag 21 3,⟨some 22,.bin (.int .eql) (.t 21) (.c (.int .u8 34)),none,[21]⟩,ag 20 22])
 (.cond (.t 20)
 (.seq (.aq [ag 23 0,⟨some 24,.call 107 [(.t 23)],none,[23]⟩,⟨none,.st 4 (.t 2) (.t 24),none,[2,24]⟩])
 (.ret))
 (.seq (.aq [ag 26 3,⟨some 27,.call 108 [(.t 26)],none,[26]⟩,ag 28 27,fJ 29 3 28,xm 30 29 28,eI 31 28 30,ag 25 31])
 (.cond (.t 25)
 (.seq (.aq [ag 32 0,⟨some 33,.call 109 [(.t 32),(.c (.int .i64 3))],none,[32]⟩,⟨none,.st 4 (.t 2) (.t 33),none,[2,33]⟩])
 (.ret))
 (.seq (.aq [ag 35 3,⟨some 36,.call 110 [(.t 35)],none,[35]⟩,ag 34 36])
 (.cond (.t 34)
 (.seq (.aq [ag 37 0,⟨some 38,.call 109 [(.t 37),(.c (.int .i64 4))],none,[37]⟩,⟨none,.st 4 (.t 2) (.t 38),none,[2,38]⟩])
 (.ret))
 (.seq (.draw [ag 40 3,⟨some 41,.bin (.int .eql) (.t 40) (.c (.int .u8 39)),none,[40]⟩,ag 42 41,dc 43 0 42,so 44 43 42,pe 45 44 42,gN 46 45 42,AF 47 46 42,dc 48 0 42,so 49 48 42,uF 50 49 42,gN 51 50 42,⟨some 52,.len .str (.t 51),(some (42,true)),[51,42]⟩,⟨some 53,.bin (.int .lss) (.t 47) (.t 52),(some (42,true)),[47,52,42]⟩,dx 54 42 53,ag 55 54,dc 56 0 55,so 57 56 55,uF 58 57 55,gN 59 58 55,dc 60 0 55,so 61 60 55,pe 62 61 55,gN 63 62 55,AF 64 63 55,⟨some 65,.jU (.t 59) (.t 64),(some (55,true)),[59,64,55]⟩,⟨some 66,.call 108 [(.t 65)],(some (55,true)),[65,55]⟩,dx 67 55 66,ag 39 67] [(6,[26]),(11,[26]),(19,[26]),(23,[26])])
 (.cond (.t 39)
 (.seq (.aq [ag 68 0,c' 69 68,dN 70 69,bR 71 70,eH 72 71,c' 73 68,dN 74 73,⟨none,.st 1 (.t 74) (.t 72),none,[74,72]⟩])
 (.seq (.aq [ag 75 0,⟨some 76,.call 109 [(.t 75),(.c (.int .i64 5))],none,[75]⟩,⟨none,.st 4 (.t 2) (.t 76),none,[2,76]⟩])
 (.ret)))
 (.skip))))))))))))
 (.seq (.seq (.aq [⟨some 77,.call 111 [],none,[]⟩,eS 78 77,dX 79])
 (.block 1 (.loop Hp)))
 (.seq (.aq [ag 98 0,c' 99 98,kH 100 99,⟨none,.st 1 (.t 100) (.c (.int .i64 251)),none,[100]⟩])
 (.seq (.aq [AP 101,⟨none,.st 4 (.t 2) (.t 101),none,[2,101]⟩])
 (.ret))))))
theorem RB:b6 Tryz.prog Tryz.f95.ntmps (Tryz.f95.body.getD .skip)=B6:=by kernel_rfl
theorem RC:cH Tryz.prog Tryz.f95.ntmps Tryz.f95.results.toList=[.ln 2 4]:=by kernel_rfl
theorem RA {args:List V} {h:ae} {K:V→ae→Prop} (ai:Nat.ble args.length 102=true) (H:b5 Tryz.prog B6 (aS.bk args) h fun e r aa=>e.ends∧∃ab,cB r aa [.ln 2 4]=some ab∧K (oneOf ab) aa):bF Tryz.prog 95 args h K:=
 df follows c2 Tryz.func95 (c:=Tryz.f95.body.getD .skip) (by kernel_rfl) (by kernel_rfl) (by kernel_rfl) ai RB RC (by kernel_rfl) H
def Bi:bB:=
 .seq (.aq [dX 4])
 (.seq (.aq [ag 5 0,ag 6 1,⟨some 7,.call 114 [(.t 5),(.t 6)],none,[5,6]⟩,ag 4 7])
 (.ret))
theorem OY:b6 Tryz.prog Tryz.f103.ntmps (Tryz.f103.body.getD .skip)=Bi:=by kernel_rfl
theorem OZ:cH Tryz.prog Tryz.f103.ntmps Tryz.f103.results.toList=[.t 4]:=by kernel_rfl
theorem OX {args:List V} {h:ae} {K:V→ae→Prop} (ai:Nat.ble args.length 8=true) (H:b5 Tryz.prog Bi (aS.bk args) h fun e r aa=>e.ends∧∃ab,cB r aa [.t 4]=some ab∧K (oneOf ab) aa):bF Tryz.prog 103 args h K:=
 df follows c2 Tryz.func103 (c:=Tryz.f103.body.getD .skip) (by kernel_rfl) (by kernel_rfl) (by kernel_rfl) ai OY OZ (by kernel_rfl) H
def Bj:bB:=
 .seq (.aq [dj 4])
 (.seq (.aq [ag 5 0,ag 6 1,⟨some 7,.call 115 [(.t 5),(.t 6)],none,[5,6]⟩,ag 4 7])
 (.ret))
theorem O1:b6 Tryz.prog Tryz.f104.ntmps (Tryz.f104.body.getD .skip)=Bj:=by kernel_rfl
theorem O2:cH Tryz.prog Tryz.f104.ntmps Tryz.f104.results.toList=[.t 4]:=by kernel_rfl
theorem O0 {args:List V} {h:ae} {K:V→ae→Prop} (ai:Nat.ble args.length 8=true) (H:b5 Tryz.prog Bj (aS.bk args) h fun e r aa=>e.ends∧∃ab,cB r aa [.t 4]=some ab∧K (oneOf ab) aa):bF Tryz.prog 104 args h K:=
 df follows c2 Tryz.func104 (c:=Tryz.f104.body.getD .skip) (by kernel_rfl) (by kernel_rfl) (by kernel_rfl) ai O1 O2 (by kernel_rfl) H
def Bk:bB:=
 .seq (.aq [dj 2])
 (.seq (.aq [ag 3 0,⟨some 4,.bin (.int .geq) (.t 3) (.c (.int .u8 48)),none,[3]⟩,ag 5 4,dc 6 0 5,⟨some 7,.bin (.int .leq) (.t 6) (.c (.int .u8 57)),(some (5,true)),[6,5]⟩,dx 8 5 7,ag 2 8])
 (.ret))
theorem O4:b6 Tryz.prog Tryz.f105.ntmps (Tryz.f105.body.getD .skip)=Bk:=by kernel_rfl
theorem O5:cH Tryz.prog Tryz.f105.ntmps Tryz.f105.results.toList=[.t 2]:=by kernel_rfl
theorem O3 {args:List V} {h:ae} {K:V→ae→Prop} (ai:Nat.ble args.length 9=true) (H:b5 Tryz.prog Bk (aS.bk args) h fun e r aa=>e.ends∧∃ab,cB r aa [.t 2]=some ab∧K (oneOf ab) aa):bF Tryz.prog 105 args h K:=
 df follows c2 Tryz.func105 (c:=Tryz.f105.body.getD .skip) (by kernel_rfl) (by kernel_rfl) (by kernel_rfl) ai O4 O5 (by kernel_rfl) H
def Bl:bB:=
 .seq (.aq [uG 2])
 (.seq (.aq [ag 7 0,⟨some 8,.call 117 [(.t 7),(.c (.func 105 []))],none,[7]⟩,⟨some 9,.call 116 [(.t 8),(.c (.int .i64 10)),(.c (.int .i64 64))],none,[8]⟩,ag 6 9,pf 10 6,pg 11 6,ag 3 10,ag 4 11])
 (.seq (.seq (.aq [ag 12 4,⟨some 13,.bin (.iD true 5) (.t 12) (.c .nilIface),none,[12]⟩,ag 14 13,fJ 15 3 14,⟨some 16,.bin (.int .gtr) (.t 15) (.c (.int .u64 2147483647)),(some (14,false)),[15,14]⟩,eI 17 14 16])
 (.cond (.t 17)
 (.seq (.aq [ag 18 0,c' 19 18,kH 20 19,⟨none,.st 1 (.t 20) (.c (.int .i64 254)),none,[20]⟩])
 (.seq (.aq [AP 21,⟨none,.st 4 (.t 2) (.t 21),none,[2,21]⟩])
 (.ret)))
 (.skip)))
 (.seq (.aq [ag 22 3,⟨some 23,.g' (.int .i64) (.t 22),none,[22]⟩,ag 5 23])
 (.seq (.seq (.aq [ag 24 5,⟨some 25,.bin (.int .gtr) (.t 24) (.c (.int .i64 1073741823)),none,[24]⟩])
 (.cond (.t 25)
 (.aq [ag 26 5,⟨some 27,.bin (.int .sub) (.t 26) (.c (.int .i64 2147483648)),none,[26]⟩,ag 5 27])
 (.skip)))
 (.seq (.aq [ag 28 5,⟨some 29,.build [(.int .i64 0),(.int .i64 0),(.int .i64 0),(.str [])] [(0,1,(.c (.int .i64 1))),(1,1,(.t 28))],none,[28]⟩,⟨none,.st 4 (.t 2) (.t 29),none,[2,29]⟩])
 (.ret))))))
theorem O7:b6 Tryz.prog Tryz.f106.ntmps (Tryz.f106.body.getD .skip)=Bl:=by kernel_rfl
theorem O8:cH Tryz.prog Tryz.f106.ntmps Tryz.f106.results.toList=[.ln 2 4]:=by kernel_rfl
theorem O6 {args:List V} {h:ae} {K:V→ae→Prop} (ai:Nat.ble args.length 30=true) (H:b5 Tryz.prog Bl (aS.bk args) h fun e r aa=>e.ends∧∃ab,cB r aa [.ln 2 4]=some ab∧K (oneOf ab) aa):bF Tryz.prog 106 args h K:=
 df follows c2 Tryz.func106 (c:=Tryz.f106.body.getD .skip) (by kernel_rfl) (by kernel_rfl) (by kernel_rfl) ai O7 O8 (by kernel_rfl) H
def G3:bB:=
 .seq (.seq (.aq [ag 12 0,c' 13 12,kH 14 13,bR 15 14,qx 16 15])
 (.cond (.t 16)
 (.skip)
 (.exit 0)))
 (.block 1 (.seq (.seq (.draw [ag 17 0,c' 18 17,dN 19 18,bR 20 19,ag 21 0,c' 22 21,fY 23 22,bR 24 23,iy 25 24,sk 26 20 25] [])
 (.cond (.t 26)
 (.seq (.aq [ag 27 0,c' 28 27,kH 29 28,⟨none,.st 1 (.t 29) (.c (.int .i64 252)),none,[29]⟩])
 (.exit 0))
 (.skip)))
 (.seq (.draw [ag 30 0,c' 31 30,fY 32 31,bR 33 32,ag 34 0,c' 35 34,dN 36 35,bR 37 36,xk 38 33 37,ag 4 38] [])
 (.block 2 (.seq (.aq [ag 51 4,⟨some 52,.bin (.int .eql) (.t 51) (.c (.int .u8 34)),none,[51]⟩,ag 50 52])
 (.cond (.t 50)
 (.seq (.aq [ag 53 0,c' 54 53,dN 55 54,bR 56 55,eH 57 56,c' 58 53,dN 59 58,⟨none,.st 1 (.t 59) (.t 57),none,[59,57]⟩])
 (.seq (.seq (.aq [ag 60 3,eS 61 60,⟨some 62,.bin (.int .gtr) (.t 61) (.c (.int .i64 4096)),none,[61]⟩])
 (.cond (.t 62)
 (.aq [ag 63 0,c' 64 63,kH 65 64,⟨none,.st 1 (.t 65) (.c (.int .i64 255)),none,[65]⟩])
 (.skip)))
 (.seq (.aq [ag 66 3,⟨some 67,.g' .str (.t 66),none,[66]⟩,⟨some 68,.build [(.int .i64 0),(.int .i64 0),(.int .i64 0),(.str [])] [(0,1,(.c (.int .i64 2))),(3,1,(.t 67))],none,[67]⟩,⟨none,.st 4 (.t 2) (.t 68),none,[2,68]⟩])
 (.ret))))
 (.seq (.aq [ag 70 4,⟨some 71,.bin (.int .eql) (.t 70) (.c (.int .u8 92)),none,[70]⟩,ag 69 71])
 (.cond (.t 69)
 (.aq [ag 72 3,ag 73 0,⟨some 74,.call 118 [(.t 73)],none,[73]⟩,⟨some 75,.gZ 1 1 [(.int .u8 0)] [(0,1,(.t 74))],none,[74]⟩,sn 76 72 75,ag 3 76])
 (.seq (.aq [ag 78 4,⟨some 79,.bin (.int .lss) (.t 78) (.c (.int .u8 32)),none,[78]⟩,ag 80 79,fJ 81 4 80,⟨some 82,.bin (.int .eql) (.t 81) (.c (.int .u8 127)),(some (80,false)),[81,80]⟩,eI 83 80 82,ag 77 83])
 (.cond (.t 77)
 (.aq [ag 84 0,c' 85 84,kH 86 85,⟨none,.st 1 (.t 86) (.c (.int .i64 252)),none,[86]⟩])
 (.seq (.aq [ag 39 0,c' 40 39,dN 41 40,bR 42 41,eH 43 42,c' 44 39,dN 45 44,⟨none,.st 1 (.t 45) (.t 43),none,[45,43]⟩])
 (.aq [ag 46 3,ag 47 4,⟨some 48,.gZ 1 1 [(.int .u8 0)] [(0,1,(.t 47))],none,[47]⟩,sn 49 46 48,ag 3 49]))))))))))))
def Bm:bB:=
 .seq (.aq [uG 2])
 (.seq (.aq [ag 5 0,c' 6 5,dN 7 6,bR 8 7,eH 9 8,c' 10 5,dN 11 10,⟨none,.st 1 (.t 11) (.t 9),none,[11,9]⟩])
 (.seq (.aq [i_ 3])
 (.seq (.block 0 (.loop G3))
 (.seq (.aq [AP 87,⟨none,.st 4 (.t 2) (.t 87),none,[2,87]⟩])
 (.ret)))))
theorem O':b6 Tryz.prog Tryz.f107.ntmps (Tryz.f107.body.getD .skip)=Bm:=by kernel_rfl
theorem O_:cH Tryz.prog Tryz.f107.ntmps Tryz.f107.results.toList=[.ln 2 4]:=by kernel_rfl
theorem O9 {args:List V} {h:ae} {K:V→ae→Prop} (ai:Nat.ble args.length 88=true) (H:b5 Tryz.prog Bm (aS.bk args) h fun e r aa=>e.ends∧∃ab,cB r aa [.ln 2 4]=some ab∧K (oneOf ab) aa):bF Tryz.prog 107 args h K:=
 df follows c2 Tryz.func107 (c:=Tryz.f107.body.getD .skip) (by kernel_rfl) (by kernel_rfl) (by kernel_rfl) ai O' O_ (by kernel_rfl) H
def Bn:bB:=
 .seq (.aq [dj 2])
 (.seq (.aq [ag 3 0,⟨some 4,.bin (.int .geq) (.t 3) (.c (.int .u8 97)),none,[3]⟩,ag 5 4,dc 6 0 5,⟨some 7,.bin (.int .leq) (.t 6) (.c (.int .u8 122)),(some (5,true)),[6,5]⟩,dx 8 5 7,ag 2 8])
 (.ret))
theorem Pb:b6 Tryz.prog Tryz.f108.ntmps (Tryz.f108.body.getD .skip)=Bn:=by kernel_rfl
theorem Pc:cH Tryz.prog Tryz.f108.ntmps Tryz.f108.results.toList=[.t 2]:=by kernel_rfl
theorem Pa {args:List V} {h:ae} {K:V→ae→Prop} (ai:Nat.ble args.length 9=true) (H:b5 Tryz.prog Bn (aS.bk args) h fun e r aa=>e.ends∧∃ab,cB r aa [.t 2]=some ab∧K (oneOf ab) aa):bF Tryz.prog 108 args h K:=
 df follows c2 Tryz.func108 (c:=Tryz.f108.body.getD .skip) (by kernel_rfl) (by kernel_rfl) (by kernel_rfl) ai Pb Pc (by kernel_rfl) H
def Bo:bB:=
 .seq (.aq [uG 4])
 (.seq (.aq [ag 6 0,⟨some 7,.call 117 [(.t 6),(.c (.func 119 []))],none,[6]⟩,ag 5 7])
 (.seq (.block 0 (.seq (.aq [ag 9 1,sl 10 9,ag 11 10,dc 12 5 11,⟨some 13,.bin (.str .eql) (.t 12) (.c (.str [95])),(some (11,true)),[12,11]⟩,dx 14 11 13,ag 8 14])
 (.cond (.t 8)
 (.seq (.aq [ag 15 5,Gh 16 15,⟨none,.st 4 (.t 4) (.t 16),none,[4,16]⟩])
 (.ret))
 (.seq (.aq [ag 18 1,sl 19 18,ag 20 19,dc 21 5 20,⟨some 22,.bin (.str .add) (.c (.str [32])) (.t 21),(some (20,true)),[21,20]⟩,⟨some 23,.bin (.str .add) (.t 22) (.c (.str [32])),(some (20,true)),[22,20]⟩,⟨some 24,.call 120 [(.c (.str [32,97,110,100,32,98,101,103,105,110,32,101,108,115,101,32,101,110,100,32,101,120,99,101,112,116,105,111,110,32,102,97,108,115,101,32,102,117,110,32,105,102,32,105,110,32,108,101,116,32,109,97,116,99,104,32,109,111,100,32,111,102,32,114,97,105,115,101,32,114,101,99,32,116,104,101,110,32,116,114,117,101,32,116,114,121,32,116,121,112,101,32,119,105,116,104,32])),(.t 23)],(some (20,true)),[23,20]⟩,dx 25 20 24,ag 17 25])
 (.cond (.t 17)
 (.seq (.aq [ag 26 5,⟨some 27,.build [(.int .i64 0),(.int .i64 0),(.int .i64 0),(.str [])] [(0,1,(.c (.int .i64 6))),(3,1,(.t 26))],none,[26]⟩,⟨none,.st 4 (.t 4) (.t 27),none,[4,27]⟩])
 (.ret))
 (.seq (.aq [ag 29 5,iy 30 29,⟨some 31,.bin (.int .gtr) (.t 30) (.c (.int .i64 64)),none,[30]⟩,ag 28 31])
 (.cond (.t 28)
 (.aq [ag 32 0,c' 33 32,kH 34 33,⟨none,.st 1 (.t 34) (.c (.int .i64 255)),none,[34]⟩])
 (.skip))))))))
 (.seq (.aq [ag 35 1,ag 36 5,⟨some 37,.build [(.int .i64 0),(.int .i64 0),(.int .i64 0),(.str [])] [(0,1,(.t 35)),(3,1,(.t 36))],none,[35,36]⟩,⟨none,.st 4 (.t 4) (.t 37),none,[4,37]⟩])
 (.ret))))
theorem Pe:b6 Tryz.prog Tryz.f109.ntmps (Tryz.f109.body.getD .skip)=Bo:=by kernel_rfl
theorem Pf:cH Tryz.prog Tryz.f109.ntmps Tryz.f109.results.toList=[.ln 4 4]:=by kernel_rfl
theorem Pd {args:List V} {h:ae} {K:V→ae→Prop} (ai:Nat.ble args.length 38=true) (H:b5 Tryz.prog Bo (aS.bk args) h fun e r aa=>e.ends∧∃ab,cB r aa [.ln 4 4]=some ab∧K (oneOf ab) aa):bF Tryz.prog 109 args h K:=
 df follows c2 Tryz.func109 (c:=Tryz.f109.body.getD .skip) (by kernel_rfl) (by kernel_rfl) (by kernel_rfl) ai Pe Pf (by kernel_rfl) H
def Bq:bB:=
 .seq (.aq [dj 2])
 (.seq (.aq [ag 3 0,⟨some 4,.bin (.int .geq) (.t 3) (.c (.int .u8 65)),none,[3]⟩,ag 5 4,dc 6 0 5,⟨some 7,.bin (.int .leq) (.t 6) (.c (.int .u8 90)),(some (5,true)),[6,5]⟩,dx 8 5 7,ag 2 8])
 (.ret))
theorem Pl:b6 Tryz.prog Tryz.f110.ntmps (Tryz.f110.body.getD .skip)=Bq:=by kernel_rfl
theorem Pm:cH Tryz.prog Tryz.f110.ntmps Tryz.f110.results.toList=[.t 2]:=by kernel_rfl
theorem Pk {args:List V} {h:ae} {K:V→ae→Prop} (ai:Nat.ble args.length 9=true) (H:b5 Tryz.prog Bq (aS.bk args) h fun e r aa=>e.ends∧∃ab,cB r aa [.t 2]=some ab∧K (oneOf ab) aa):bF Tryz.prog 110 args h K:=
 df follows c2 Tryz.func110 (c:=Tryz.f110.body.getD .skip) (by kernel_rfl) (by kernel_rfl) (by kernel_rfl) ai Pl Pm (by kernel_rfl) H
def Br:bB:=
 .seq (.aq [i_ 0])
 (.seq (.aq [⟨some 1,.gZ 17 1 [(.str [])] [(0,1,(.c (.str [59,59]))),(1,1,(.c (.str [58,61]))),(2,1,(.c (.str [45,62]))),(3,1,(.c (.str [60,61]))),(4,1,(.c (.str [59]))),(5,1,(.c (.str [40]))),(6,1,(.c (.str [41]))),(7,1,(.c (.str [44]))),(8,1,(.c (.str [61]))),(9,1,(.c (.str [60]))),(10,1,(.c (.str [43]))),(11,1,(.c (.str [45]))),(12,1,(.c (.str [42]))),(13,1,(.c (.str [47]))),(14,1,(.c (.str [124]))),(15,1,(.c (.str [33]))),(16,1,(.c (.str [95])))],none,[]⟩,ag 0 1])
 (.ret))
theorem Po:b6 Tryz.prog Tryz.f111.ntmps (Tryz.f111.body.getD .skip)=Br:=by kernel_rfl
theorem Pp:cH Tryz.prog Tryz.f111.ntmps Tryz.f111.results.toList=[.t 0]:=by kernel_rfl
theorem Pn {args:List V} {h:ae} {K:V→ae→Prop} (ai:Nat.ble args.length 2=true) (H:b5 Tryz.prog Br (aS.bk args) h fun e r aa=>e.ends∧∃ab,cB r aa [.t 0]=some ab∧K (oneOf ab) aa):bF Tryz.prog 111 args h K:=
 df follows c2 Tryz.func111 (c:=Tryz.f111.body.getD .skip) (by kernel_rfl) (by kernel_rfl) (by kernel_rfl) ai Po Pp (by kernel_rfl) H
def Bs:bB:=
 .seq (.aq [dj 4])
 (.seq (.aq [ag 5 0,iy 6 5,ag 7 1,iy 8 7,sk 9 6 8,ag 10 9,dc 11 0 10,dc 12 1 10,⟨some 13,.len .str (.t 12),(some (10,true)),[12,10]⟩,⟨some 14,.nF (.t 11) none (some (.t 13)) none,(some (10,true)),[11,13,10]⟩,dc 15 1 10,⟨some 16,.bin (.str .eql) (.t 14) (.t 15),(some (10,true)),[14,15,10]⟩,dx 17 10 16,ag 4 17])
 (.ret))
theorem Pr:b6 Tryz.prog Tryz.f115.ntmps (Tryz.f115.body.getD .skip)=Bs:=by kernel_rfl
theorem Ps:cH Tryz.prog Tryz.f115.ntmps Tryz.f115.results.toList=[.t 4]:=by kernel_rfl
theorem Pq {args:List V} {h:ae} {K:V→ae→Prop} (ai:Nat.ble args.length 18=true) (H:b5 Tryz.prog Bs (aS.bk args) h fun e r aa=>e.ends∧∃ab,cB r aa [.t 4]=some ab∧K (oneOf ab) aa):bF Tryz.prog 115 args h K:=
 df follows c2 Tryz.func115 (c:=Tryz.f115.body.getD .skip) (by kernel_rfl) (by kernel_rfl) (by kernel_rfl) ai Pr Ps (by kernel_rfl) H
def G5:bB:=
 .seq (.seq (.draw [ag 10 0,c' 11 10,dN 12 11,bR 13 12,ag 14 0,c' 15 14,fY 16 15,bR 17 16,iy 18 17,fX 19 13 18,ag 20 19,dc 21 1 20,dc 22 0 20,so 23 22 20,uF 24 23 20,gN 25 24 20,dc 26 0 20,so 27 26 20,pe 28 27 20,gN 29 28 20,⟨some 30,.jU (.t 25) (.t 29),(some (20,true)),[25,29,20]⟩,⟨some 31,.ll (.t 21) [(.t 30)],(some (20,true)),[21,30,20]⟩,dx 32 20 31] [(3,[21]),(7,[21]),(15,[21]),(19,[21])])
 (.cond (.t 32)
 (.skip)
 (.exit 0)))
 (.block 1 (.aq [ag 33 0,c' 34 33,dN 35 34,bR 36 35,eH 37 36,c' 38 33,dN 39 38,⟨none,.st 1 (.t 39) (.t 37),none,[39,37]⟩]))
def Bt:bB:=
 .seq (.aq [⟨some 4,.dk (.c (.str [])),none,[]⟩])
 (.seq (.aq [ag 6 0,c' 7 6,dN 8 7,bR 9 8,ag 5 9])
 (.seq (.block 0 (.loop G5))
 (.seq (.draw [ag 40 0,c' 41 40,fY 42 41,bR 43 42,ag 44 5,ag 45 0,c' 46 45,dN 47 46,bR 48 47,⟨some 49,.nF (.t 43) (some (.t 44)) (some (.t 48)) none,none,[43,44,48]⟩,ag 4 49] [])
 (.ret))))
theorem Pv:b6 Tryz.prog Tryz.f117.ntmps (Tryz.f117.body.getD .skip)=Bt:=by kernel_rfl
theorem Pw:cH Tryz.prog Tryz.f117.ntmps Tryz.f117.results.toList=[.t 4]:=by kernel_rfl
theorem Pt {args:List V} {h:ae} {K:V→ae→Prop} (ai:Nat.ble args.length 50=true) (H:b5 Tryz.prog Bt (aS.bk args) h fun e r aa=>e.ends∧∃ab,cB r aa [.t 4]=some ab∧K (oneOf ab) aa):bF Tryz.prog 117 args h K:=
 df follows c2 Tryz.func117 (c:=Tryz.f117.body.getD .skip) (by kernel_rfl) (by kernel_rfl) (by kernel_rfl) ai Pv Pw (by kernel_rfl) H
def Bu:bB:=
 .seq (.aq [⟨some 2,.dk (.c (.int .u8 0)),none,[]⟩])
 (.seq (.aq [ag 7 0,c' 8 7,dN 9 8,bR 10 9,eH 11 10,c' 12 7,dN 13 12,⟨none,.st 1 (.t 13) (.t 11),none,[13,11]⟩])
 (.seq (.draw [ag 14 0,c' 15 14,fY 16 15,bR 17 16,ag 18 0,c' 19 18,dN 20 19,bR 21 20,AO 22 17 21,ag 3 22] [])
 (.seq (.seq (.aq [ag 23 3,⟨some 24,.bin (.str .neq) (.t 23) (.c (.str [])),none,[23]⟩])
 (.cond (.t 24)
 (.seq (.aq [ag 25 3,xl 26 25,⟨some 27,.call 92 [(.c (.str [110,116,34,92])),(.t 26)],none,[26]⟩,ag 4 27])
 (.seq (.aq [ag 28 4,xh 29 28])
 (.cond (.t 29)
 (.seq (.aq [ag 30 0,c' 31 30,dN 32 31,bR 33 32,eH 34 33,c' 35 30,dN 36 35,⟨none,.st 1 (.t 36) (.t 34),none,[36,34]⟩])
 (.seq (.aq [ag 37 4,⟨some 38,.jU (.c (.str [10,9,34,92])) (.t 37),none,[37]⟩,ag 2 38])
 (.ret)))
 (.skip))))
 (.skip)))
 (.seq (.seq (.aq [ag 39 3,iy 40 39,⟨some 41,.bin (.int .geq) (.t 40) (.c (.int .i64 3)),none,[40]⟩,ag 42 41,dc 43 3 42,⟨some 44,.jU (.t 43) (.c (.int .i64 0)),(some (42,true)),[43,42]⟩,⟨some 45,.call 105 [(.t 44)],(some (42,true)),[44,42]⟩,dx 46 42 45,ag 47 46,dc 48 3 47,⟨some 49,.jU (.t 48) (.c (.int .i64 1)),(some (47,true)),[48,47]⟩,⟨some 50,.call 105 [(.t 49)],(some (47,true)),[49,47]⟩,dx 51 47 50,ag 52 51,dc 53 3 52,⟨some 54,.jU (.t 53) (.c (.int .i64 2)),(some (52,true)),[53,52]⟩,⟨some 55,.call 105 [(.t 54)],(some (52,true)),[54,52]⟩,dx 56 52 55])
 (.cond (.t 56)
 (.seq (.aq [ag 58 3,⟨some 59,.nF (.t 58) none (some (.c (.int .i64 3))) none,none,[58]⟩,⟨some 60,.call 123 [(.t 59)],none,[59]⟩,ag 57 60,pf 61 57,pg 62 57,ag 5 61,ag 6 62])
 (.seq (.aq [ag 63 5,⟨some 64,.bin (.int .lss) (.t 63) (.c (.int .i64 256)),none,[63]⟩])
 (.cond (.t 64)
 (.seq (.aq [ag 65 0,c' 66 65,dN 67 66,bR 68 67,⟨some 69,.bin (.int .add) (.t 68) (.c (.int .i64 3)),none,[68]⟩,c' 70 65,dN 71 70,⟨none,.st 1 (.t 71) (.t 69),none,[71,69]⟩])
 (.seq (.aq [ag 72 5,⟨some 73,.g' (.int .u8) (.t 72),none,[72]⟩,ag 2 73])
 (.ret)))
 (.skip))))
 (.skip)))
 (.seq (.aq [ag 74 0,c' 75 74,kH 76 75,⟨none,.st 1 (.t 76) (.c (.int .i64 252)),none,[76]⟩])
 (.seq (.aq [⟨some 2,.dk (.c (.int .u8 0)),none,[]⟩])
 (.ret)))))))
theorem Py:b6 Tryz.prog Tryz.f118.ntmps (Tryz.f118.body.getD .skip)=Bu:=by kernel_rfl
theorem Pz:cH Tryz.prog Tryz.f118.ntmps Tryz.f118.results.toList=[.t 2]:=by kernel_rfl
theorem Px {args:List V} {h:ae} {K:V→ae→Prop} (ai:Nat.ble args.length 77=true) (H:b5 Tryz.prog Bu (aS.bk args) h fun e r aa=>e.ends∧∃ab,cB r aa [.t 2]=some ab∧K (oneOf ab) aa):bF Tryz.prog 118 args h K:=
 df follows c2 Tryz.func118 (c:=Tryz.f118.body.getD .skip) (by kernel_rfl) (by kernel_rfl) (by kernel_rfl) ai Py Pz (by kernel_rfl) H
def c119:bB:=
 .seq (.aq [dj 2])
 (.seq (.aq [ag 3 0,⟨some 4,.call 105 [(.t 3)],none,[3]⟩,ag 5 4,fJ 6 0 5,⟨some 7,.call 108 [(.t 6)],(some (5,false)),[6,5]⟩,eI 8 5 7,ag 9 8,fJ 10 0 9,⟨some 11,.call 110 [(.t 10)],(some (9,false)),[10,9]⟩,eI 12 9 11,ag 13 12,fJ 14 0 13,xm 15 14 13,eI 16 13 15,ag 17 16,fJ 18 0 17,⟨some 19,.bin (.int .eql) (.t 18) (.c (.int .u8 39)),(some (17,false)),[18,17]⟩,eI 20 17 19,ag 2 20])
 (.ret))
theorem PB:b6 Tryz.prog Tryz.f119.ntmps (Tryz.f119.body.getD .skip)=c119:=by kernel_rfl
theorem PC:cH Tryz.prog Tryz.f119.ntmps Tryz.f119.results.toList=[.t 2]:=by kernel_rfl
theorem PA {args:List V} {h:ae} {K:V→ae→Prop} (ai:Nat.ble args.length 21=true) (H:b5 Tryz.prog c119 (aS.bk args) h fun e r aa=>e.ends∧∃ab,cB r aa [.t 2]=some ab∧K (oneOf ab) aa):bF Tryz.prog 119 args h K:=
 df follows c2 Tryz.func119 (c:=Tryz.f119.body.getD .skip) (by kernel_rfl) (by kernel_rfl) (by kernel_rfl) ai PB PC (by kernel_rfl) H
theorem k5 {f:FuncId} {args:List V} {h:ae} {v:V} (c:bF Tryz.prog f args h fun x aa=>x=v∧aa=h):eo Tryz.prog f args h v h:=by
 obtain ⟨x,aa,q,rfl,rfl⟩:=c
 exact q
def kb (c:Int):Bool:=decide (48≤c)&&decide (c≤57)
def fx (c:Int):Bool:=decide (97≤c)&&decide (c≤122)
def kf (c:Int):Bool:=decide (65≤c)&&decide (c≤90)
def pW (c:Int):Bool:=kb c||fx c||kf c||decide (c=95)||decide (c=39)
def kC (c a b:Int):Bool:=decide (a≤c)&&decide (c≤b)
theorem sH (c:Int) (h:ae):eo Tryz.prog 105 [.int .u8 c] h (.bool (kb c)) h:=by
 refine k5 (O3 rfl (db ?_))
 unfold Bk
 simp +contextual only [↓ak,au,simprocAttr]
 rfl
theorem Ab (c:Int) (h:ae):eo Tryz.prog 108 [.int .u8 c] h (.bool (fx c)) h:=by
 refine k5 (Pa rfl (db ?_))
 unfold Bn
 simp +contextual only [↓ak,au,simprocAttr]
 rfl
theorem IG (c:Int) (h:ae):eo Tryz.prog 110 [.int .u8 c] h (.bool (kf c)) h:=by
 refine k5 (Pk rfl (db ?_))
 unfold Bq
 simp +contextual only [↓ak,au,simprocAttr]
 rfl
theorem uo (c a b:Int) (h:ae):eo Tryz.prog 78 [.int .u8 c,.int .u8 a,.int .u8 b] h (.bool (kC c a b)) h:=by
 refine k5 (Rc rfl (db ?_))
 unfold B0
 simp +contextual only [↓ak,au,simprocAttr]
 rfl
theorem Ur (s p:List UInt8) (h:ae):eo Tryz.prog 115 [.str s,.str p] h (.bool (p.isPrefixOf s)) h:=by
 refine k5 (Pq rfl (db ?_))
 unfold Bs
 have bb:(0≤(p.length:Int))=True:=eq_true (by omega)
 by_cases ai:p.length≤s.length
 · have U:((p.length:Int)≤(s.length:Int))=True:=eq_true (by omega)
   simp +contextual only [bb,U,Int.toNat_natCast,↓ak,au,simprocAttr]
   rw [Bool.eq_iff_iff,decide_eq_true_eq,List.isPrefixOf_iff_prefix,List.prefix_iff_eq_take]
   exact ⟨fun e=>e.symm,fun e=>e.symm⟩
 · have U:((p.length:Int)≤(s.length:Int))=False:=eq_false (by omega)
   simp +contextual only [bb,U,Int.toNat_natCast,↓ak,au,simprocAttr]
   rw [eq_comm,←Bool.not_eq_true,List.isPrefixOf_iff_prefix]
   exact fun e=>ai e.length_le
theorem Uq (s p:List UInt8) (h:ae):eo Tryz.prog 104 [.str s,.str p] h (.bool (p.isPrefixOf s)) h:=by
 refine k5 (O0 rfl (db ?_))
 unfold Bj
 simp +contextual only [↓ak,au,simprocAttr]
 refine eR (Ur s p h) ?_
 simp +contextual only [↓ak,au,simprocAttr]
theorem YW (c:Int) (h:ae):eo Tryz.prog 119 [.int .u8 c] h (.bool (pW c)) h:=by
 refine k5 (PA rfl (db ?_))
 unfold c119
 simp +contextual only [↓ak,au,simprocAttr]
 refine eR (sH c h) ?_
 simp +contextual only [↓ak,au,simprocAttr]
 refine yh (.bool (fx c)) (fun ar=>by simp only [ar,↓ak,au,simprocAttr];exact Ab _ _) ?_
 simp +contextual only [↓ak,au,simprocAttr]
 refine yh (.bool (kf c)) (fun ar=>by simp only [ar,↓ak,au,simprocAttr];exact IG _ _) ?_
 simp +contextual only [↓ak,au,simprocAttr]
 rfl
theorem Nx (c:Int) (h:ae):eo Tryz.prog 77 [.int .u8 c] h (.bool (kC c 97 122||kC c 65 90||kC c 48 57||decide (c=95)||decide (c=39))) h:=by
 refine k5 (Q_ rfl (db ?_))
 unfold BZ
 simp +contextual only [↓ak,au,simprocAttr]
 refine eR (uo c _ _ h) ?_
 simp +contextual only [↓ak,au,simprocAttr]
 refine yh (.bool (kC c 65 90)) (fun ar=>by simp only [ar,↓ak,au,simprocAttr];exact uo _ _ _ _) ?_
 simp +contextual only [↓ak,au,simprocAttr]
 refine yh (.bool (kC c 48 57)) (fun ar=>by simp only [ar,↓ak,au,simprocAttr];exact uo _ _ _ _) ?_
 simp +contextual only [↓ak,au,simprocAttr]
theorem CQ (s p:List UInt8) (at':Int) (rest:List V) (b:aO) (cj:Nat) (st:Bool) (h:ae) (af:h.get b=.bk (.str s::.int .i64 at'::rest) cj st) (bb:0≤at') (U:at'≤s.length):
 eo Tryz.prog 93 [.ptr b 0,.str p] h (.bool (p.isPrefixOf (s.drop at'.toNat))) h:=by
 refine k5 (Ru rfl (db ?_))
 unfold B4
 have f0:(0≤at')=True:=eq_true bb
 have f1:(at'≤(s.length:Int))=True:=eq_true U
 simp +contextual only [af,f0,f1,↓ak,au,simprocAttr]
 refine eR (Uq _ p h) ?_
 simp +contextual only [af,f0,f1,↓ak,au,simprocAttr]
def gI:List UInt8→Int→Option Nat
 | [],_=>none
 | [_],_=>none
 | x::y::r,d=>if x=40∧y=42 then (gI r (d+1)).map (· +2) else if x=42∧y=41 then (if d-1=0 then some 2 else (gI r (d-1)).map (· +2)) else (gI (y::r) d).map (· +1)
theorem ZB (r:List UInt8) (d:Int) (h:r≠[]):gI r d=if ([40,42]:List UInt8).isPrefixOf r=true then (gI (r.drop 2) (d+1)).map (· +2) else
 if ([42,41]:List UInt8).isPrefixOf r=true then (if d-1=0 then some 2 else (gI (r.drop 2) (d-1)).map (· +2)) else (gI (r.drop 1) d).map (· +1):=by
 match r,h with
 | [x],_=>simp [gI,List.isPrefixOf]
 | x::y::r,_=>
   have aE:(([40,42]:List UInt8).isPrefixOf (x::y::r)=true)=(x=40∧y=42):=by
    simp only [List.isPrefixOf,Bool.and_true,Bool.and_eq_true,beq_iff_eq]
    exact propext ⟨fun q=>⟨q.1.symm,q.2.symm⟩,fun q=>⟨q.1.symm,q.2.symm⟩⟩
   have aM:(([42,41]:List UInt8).isPrefixOf (x::y::r)=true)=(x=42∧y=41):=by
    simp only [List.isPrefixOf,Bool.and_true,Bool.and_eq_true,beq_iff_eq]
    exact propext ⟨fun q=>⟨q.1.symm,q.2.symm⟩,fun q=>⟨q.1.symm,q.2.symm⟩⟩
   rw [gI]
   simp only [aE,aM,List.drop_succ_cons,List.drop_zero]
theorem LB {a b:UInt8} {r:List UInt8} (h:([a,b]:List UInt8).isPrefixOf r=true):2≤r.length:=by
 rw [List.isPrefixOf_iff_prefix] at h
 simpa using h.length_le
noncomputable def ec (s:List UInt8) (at' e:Int):bV:=.bk [.str s,.int .i64 at',.int .i64 e] 0 false
theorem ZC (s:List UInt8) (a0:Nat) (cC:Int) (b:aO) (h:ae) (af:h.get b=ec s a0 cC) (bb:a0≤s.length) (aQ:s.length≤100000) (fh:Old h b):
 bF Tryz.prog 94 [.ptr b 0] h fun x aa=>x=.tuple []∧Mod (fun x=>x=b) h aa∧(match gI (s.drop a0) 0 with
  | some n=>aa.get b=ec s ((a0+n:Nat):Int) cC∧a0+n≤s.length
  | none=>aa.get b=ec s (s.length:Int) 253):=by
 refine Rx rfl (db ?_)
 unfold B5
 unfold ec at af ⊢
 simp +contextual only [af,↓ak,au,simprocAttr]
 refine gu (fun r aa=>∃(a:Nat) (d:Int),a0≤a∧a≤s.length∧r 0=.ptr b 0∧r 2=.int .i64 d∧aa.get b=.bk [.str s,.int .i64 a,.int .i64 cC] 0 false∧Mod (fun x=>x=b) h aa∧-(a:Int)≤d∧d≤a∧
  gI (s.drop a0) 0=(gI (s.drop a) d).map (· + (a-a0))) (fun r aa=>s.length - ((hc (aa.get b) 1).getD .bad).toN) ?_ ?_
 · refine ⟨a0,0,Nat.le_refl _,bb,?_⟩
   simp only [↓ak,au,simprocAttr]
   refine ⟨af,Mod.refl _ _,by omega,by omega,?_⟩
   rw [Nat.sub_self]
   cases gI (s.drop a0) 0<;>rfl
 · rintro r aa ⟨a,d,ns,b_,bp,cW,aD,hm,d0,d1,bg⟩
   unfold Ho
   by_cases eT:(s.length:Int)≤(a:Int)
   · have bm:a=s.length:=by omega
     have a7:gI (s.drop a) d=none:=by
      rw [bm,List.drop_length]
      rfl
     rw [a7] at bg
     simp +contextual only [bp,cW,aD,eT,↓ak,au,simprocAttr]
     rw [bg]
     refine ⟨hm.set (fun _=>rfl) _,?_⟩
     simp only [bm,Option.map_none,dG,if_true]
   · have c8:s.drop a≠[]:=by
      intro q
      rw [List.drop_eq_nil_iff] at q
      omega
     have vB:∀p,eo Tryz.prog 93 [.ptr b 0,.str p] aa (.bool (p.isPrefixOf (s.drop a))) aa:=fun p=>by
      have:=CQ s p (a:Int) [.int .i64 cC] b 0 false aa aD (by omega) (by omega)
      simpa using this
     have gb:=ZB (s.drop a) d c8
     simp +contextual only [bp,cW,aD,eT,↓ak,au,simprocAttr]
     refine eR (vB _) ?_
     cases gQ:([40,42]:List UInt8).isPrefixOf (s.drop a) with
     | true=>
       have ad:=LB gQ
       rw [List.length_drop] at ad
       rw [gQ,if_pos rfl] at gb
       have bM:IntKind.i64.wrap (d+1)=d+1:=wrap_i64 (by omega) (by omega)
       have bI:IntKind.i64.wrap ((a:Int)+2)=((a+2:Nat):Int):=by rw [wrap_i64 (by omega) (by omega)];rfl
       simp +contextual only [bp,cW,aD,bM,bI,↓ak,au,simprocAttr]
       refine ⟨⟨a+2,d+1,by omega,by omega,rfl,rfl,hm.set (fun _=>rfl) _,by omega,by omega,?_⟩,by omega⟩
       rw [bg,gb,List.drop_drop,Option.map_map]
       congr 1
       funext q
       simp only [Function.comp]
       omega
     | false=>
       rw [gQ,if_neg (by decide)] at gb
       simp +contextual only [bp,cW,aD,↓ak,au,simprocAttr]
       refine eR (vB _) ?_
       cases gr:([42,41]:List UInt8).isPrefixOf (s.drop a) with
       | true=>
         have ad:=LB gr
         rw [List.length_drop] at ad
         rw [gr,if_pos rfl] at gb
         have bM:IntKind.i64.wrap (d-1)=d-1:=wrap_i64 (by omega) (by omega)
         have bI:IntKind.i64.wrap ((a:Int)+2)=((a+2:Nat):Int):=by rw [wrap_i64 (by omega) (by omega)];rfl
         by_cases aV:d-1=0
         · rw [if_pos aV] at gb
           obtain rfl:d=1:=by omega
           have aw:IntKind.i64.wrap 0=0:=rfl
           simp +contextual only [bp,cW,aD,aw,bI,↓ak,au,simprocAttr]
           rw [bg,gb]
           refine ⟨hm.set (fun _=>rfl) _,?_⟩
           simp only [Option.map_some,dG,if_true]
           refine ⟨?_,by omega⟩
           rw [show a0 + (2 + (a-a0))=a+2 from by omega]
         · rw [if_neg aV] at gb
           simp +contextual only [bp,cW,aD,bM,bI,aV,↓ak,au,simprocAttr]
           refine ⟨⟨a+2,d-1,by omega,by omega,rfl,rfl,hm.set (fun _=>rfl) _,by omega,by omega,?_⟩,by omega⟩
           rw [bg,gb,List.drop_drop,Option.map_map]
           congr 1
           funext q
           simp only [Function.comp]
           omega
       | false=>
         rw [gr,if_neg (by decide)] at gb
         have bI:IntKind.i64.wrap ((a:Int)+1)=((a+1:Nat):Int):=by rw [wrap_i64 (by omega) (by omega)];rfl
         simp +contextual only [bp,cW,aD,bI,↓ak,au,simprocAttr]
         refine ⟨⟨a+1,d,by omega,by omega,rfl,rfl,hm.set (fun _=>rfl) _,by omega,by omega,?_⟩,by omega⟩
         rw [bg,gb,List.drop_drop,Option.map_map]
         congr 1
         funext q
         simp only [Function.comp]
         omega
theorem drop_cons {s:List UInt8} {a:Nat} (h:a<s.length):s.drop a=s[a]::s.drop (a+1):=List.drop_eq_getElem_cons h
theorem MK (p:UInt8→Bool):∀l:List UInt8,(l.takeWhile p).length≤l.length
 | []=>by simp
 | x::l=>by
   simp only [List.takeWhile_cons]
   split
   · simpa using MK p l
   · simp
theorem Mc (s:List UInt8) (a0:Nat) (cC:Int) (b:aO) (g:FuncId) (p:Int→Bool) (h:ae) (af:h.get b=ec s a0 cC) (bb:a0≤s.length) (aQ:s.length≤100000) (aZ:(g=4294967296)=False)
 (ah:∀c h,eo Tryz.prog g [.int .u8 c] h (.bool (p c)) h):
 bF Tryz.prog 117 [.ptr b 0,.func g []] h fun x aa=>x=.str ((s.drop a0).takeWhile fun c=>p c.toNat)∧Mod (fun x=>x=b) h aa∧aa.get b=ec s ((a0 + ((s.drop a0).takeWhile fun c=>p c.toNat).length:Nat):Int) cC:=by
 refine Pt rfl (db ?_)
 unfold Bt
 unfold ec at af ⊢
 simp +contextual only [af,↓ak,au,simprocAttr]
 refine gu (fun r aa=>∃(a:Nat),a0≤a∧a≤s.length∧r 0=.ptr b 0∧r 1=.func g []∧r 5=.int .i64 a0∧aa.get b=.bk [.str s,.int .i64 a,.int .i64 cC] 0 false∧Mod (fun x=>x=b) h aa∧
  ((s.drop a0).takeWhile fun c=>p c.toNat)=(s.drop a0).take (a-a0)++((s.drop a).takeWhile fun c=>p c.toNat)) (fun r aa=>s.length - ((hc (aa.get b) 1).getD .bad).toN) ?_ ?_
 · refine ⟨a0,Nat.le_refl _,bb,?_⟩
   simp only [↓ak,au,simprocAttr]
   refine ⟨af,Mod.refl _ _,?_⟩
   rw [Nat.sub_self]
   rfl
 · rintro r aa ⟨a,ns,b_,bp,bt,cL,aD,hm,bg⟩
   unfold G5
   have fin:((s.drop a).takeWhile fun c=>p c.toNat)=[]→V.str (((s.drop a0).take (a-a0)))=V.str ((s.drop a0).takeWhile fun c=>p c.toNat)∧Mod (fun x=>x=b) h aa∧bV.bk [V.str s,V.int .i64 a,V.int .i64 cC] 0 false=bV.bk [V.str s,V.int .i64 ((a0 + ((s.drop a0).takeWhile fun c=>p c.toNat).length:Nat):Int),V.int .i64 cC] 0 false:=by
    intro q
    rw [q,List.append_nil] at bg
    rw [bg,List.length_take,List.length_drop]
    refine ⟨rfl,hm,?_⟩
    rw [show a0+min (a-a0) (s.length-a0)=a from by omega]
   have f0:(0≤(a0:Int))=True:=eq_true (by omega)
   have f1:((a0:Int)≤(a:Int))=True:=eq_true (by omega)
   have f2:((a:Int)≤(s.length:Int))=True:=eq_true (by omega)
   have f3:(0≤(a:Int))=True:=eq_true (by omega)
   by_cases eT:(a:Int) < (s.length:Int)
   · have aN:a<s.length:=by omega
     rw [drop_cons aN,List.takeWhile_cons] at bg fin
     simp +contextual only [aZ,if_false,bp,bt,cL,aD,eT,f0,f1,f2,f3,List.getElem?_eq_getElem aN,Int.toNat_natCast,↓ak,au,simprocAttr]
     refine eR (ah _ _) ?_
     cases mn:p ((s[a]).toNat:Int) with
     | true=>
       rw [mn] at bg
       have bI:IntKind.i64.wrap ((a:Int)+1)=((a+1:Nat):Int):=by rw [wrap_i64 (by omega) (by omega)];rfl
       simp +contextual only [mn,bp,bt,cL,aD,eT,f0,f1,f2,f3,bI,List.getElem?_eq_getElem aN,Int.toNat_natCast,↓ak,au,simprocAttr]
       refine ⟨⟨a+1,by omega,by omega,rfl,hm.set (fun _=>rfl) _,?_⟩,by omega⟩
       rw [bg,if_pos rfl]
       have Dt:a-a0 < (s.drop a0).length:=by rw [List.length_drop];omega
       rw [show a+1-a0=a-a0+1 from by omega,←List.take_append_getElem Dt,List.append_assoc]
       congr 1
       rw [List.getElem_drop]
       simp only [show a0 + (a-a0)=a from by omega]
       rfl
     | false=>
       rw [mn] at fin
       simp +contextual only [mn,bp,bt,cL,aD,eT,f0,f1,f2,f3,List.getElem?_eq_getElem aN,Int.toNat_natCast,↓ak,au,simprocAttr]
       exact fin rfl
   · have bm:a=s.length:=by omega
     simp +contextual only [aZ,if_false,bp,bt,cL,aD,eT,f0,f1,f2,f3,Int.toNat_natCast,↓ak,au,simprocAttr]
     refine fin ?_
     rw [bm,List.drop_length]
     rfl
end Go.Proofs.YtkehcalakofigaaGreatDoor
