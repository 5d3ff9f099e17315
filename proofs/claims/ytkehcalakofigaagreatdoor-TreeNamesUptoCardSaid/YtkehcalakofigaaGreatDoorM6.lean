/- The chapter's functions, walked by the abstract machine: plain lemmas, no condition. Printed by a program from longer texts: names made short. -/
import Derived.Test.YtkehcalakofigaaGreatDoorM5
import Derived.Test.YtkehcalakofigaaGreatDoorM3
import Derived.Test.YtkehcalakofigaaGreatDoorM4
import Derived.Shelf.Strings.Search3
import Derived.Shelf.SlIter.Nil
import Derived.Shelf.SortM.Plain
import Derived.Shelf.SortM.SortNone
import Derived.MakeChecks
import Derived.Shelf.Vars
import Derived.Lay
import Derived.LaidLaws
import Derived.Lib.LaidTab
import Derived.Lib.LaidU8T
import Derived.Test.YtkehcalakofigaaGreatDoorRows
set_option linter.unusedSectionVars false
set_option linter.unusedSimpArgs false
set_option linter.unusedVariables false
namespace Go.Proofs.YtkehcalakofigaaGreatDoor
open Go aS
inductive aM where
 | mk (k n a:Int) (s:List UInt8) (l:List aM)
namespace aM
def k:aM→Int | mk k _ _ _ _=>k
def n:aM→Int | mk _ n _ _ _=>n
def a:aM→Int | mk _ _ a _ _=>a
def s:aM→List UInt8 | mk _ _ _ s _=>s
def l:aM→List aM | mk _ _ _ _ l=>l
end aM
mutual
def aM.size:aM→Nat
 | .mk _ _ _ _ l=>1+dt l
def dt:List aM→Nat
 | []=>0
 | t::l=>t.size+dt l
end
theorem zr {t:aM}:∀{l:List aM},t ∈ l→t.size≤dt l
 | [],h=>by cases h
 | u::l,h=>by
   simp only [dt]
   rcases List.mem_cons.1 h with rfl | h
   · omega
   · have:=zr h;omega
theorem mD {t u:aM} (h:u ∈ t.l):u.size<t.size:=by
 cases t with
 | mk k n a s l=>have:=zr h;simp only [aM.size];simp only [aM.l] at this;omega
theorem l3:∀l:List aM,l.length≤dt l
 | []=>Nat.le_refl _
 | t::l=>by have:=l3 l;have:1≤t.size:=by (cases t;simp only [aM.size];omega)
            simp only [dt,List.length_cons];omega
theorem mE (t:aM):1≤t.size:=by cases t;simp only [aM.size];omega
mutual
def aM.enc:aM→List D
 | .mk k n a s l=>[.i .i64 k,.i .i64 n,.i .i64 a,.s s,.l 5 (CQ l)]
def CQ:List aM→List (List D)
 | []=>[]
 | t::l=>t.enc::CQ l
end
theorem Qc:∀l:List aM,CQ l=l.map aM.enc
 | []=>rfl
 | t::l=>by rw [CQ,Qc l,List.map_cons]
theorem wI (t:aM):t.enc=[.i .i64 t.k,.i .i64 t.n,.i .i64 t.a,.s t.s,.l 5 (t.l.map aM.enc)]:=by
 cases t with
 | mk k n a s l=>simp only [aM.enc,Qc,aM.k,aM.n,aM.a,aM.s,aM.l]
mutual
def aM.pre:aM→List aM
 | .mk k n a s l=>.mk k n a s l::hL l
def hL:List aM→List aM
 | []=>[]
 | t::l=>t.pre++hL l
end
theorem I2 (t:aM):t.pre=t::hL t.l:=by cases t;simp only [aM.pre,aM.l]
theorem I3:∀l m:List aM,hL (l++m)=hL l++hL m
 | [],m=>rfl
 | t::l,m=>by rw [List.cons_append,hL,hL,I3 l m,List.append_assoc]
mutual
theorem Qo:∀t:aM,t.pre.length=t.size
 | .mk k n a s l=>by rw [aM.pre,aM.size,List.length_cons,CW l,Nat.add_comm]
theorem CW:∀l:List aM,(hL l).length=dt l
 | []=>rfl
 | t::l=>by rw [hL,dt,List.length_append,Qo t,CW l]
end
mutual
def aM.deep:aM→Nat
 | .mk _ _ _ _ l=>r_ l+1
def r_:List aM→Nat
 | []=>0
 | t::l=>max t.deep (r_ l)
end
section
variable {F:aQ→Prop} {h:af} [Lay]
theorem aM.open {t:aM} {ad:List V} (H:bZ F h t.enc ad):∃cl,ad=[.int .i64 t.k,.int .i64 t.n,.int .i64 t.a,.str t.s,cl]∧bI F h 5 (t.l.map aM.enc) cl∧t.s.length≤top:=by
 rw [wI] at H
 obtain ⟨_,rfl,H1⟩:=H.int
 obtain ⟨_,rfl,cD⟩:=H1.int
 obtain ⟨_,rfl,DL⟩:=cD.int
 obtain ⟨_,rfl,aR,DM⟩:=DL.str
 obtain ⟨cl,_,rfl,L,DN⟩:=DM.eC
 obtain rfl:=DN.no
 exact ⟨cl,rfl,L,aR⟩
theorem aM.jV {l:List aM} {v:V} (H:bI F h 5 (l.map aM.enc) v) {k:IntKind} {i:Nat} (av:i<l.length):
 ∃b off cl,hY 5 v (.int k i)=some (.ptr b (off+i * 5))∧bZ F h l[i].enc [.int .i64 l[i].k,.int .i64 l[i].n,.int .i64 l[i].a,.str l[i].s,cl]∧bI F h 5 (l[i].l.map aM.enc) cl∧
  ∀ab,Ext h ab→mx 5 (ab.get b) (off+i * 5)=some (.agg [.int .i64 l[i].k,.int .i64 l[i].n,.int .i64 l[i].a,.str l[i].s,cl]):=by
 obtain ⟨b,off,u,aB,aO,cc,fy,_⟩:=H.at (k:=k) (i:=i) (by rw [List.length_map];exact av)
 rw [List.getElem_map] at aO
 obtain ⟨cl,rfl,L,_⟩:=aM.open aO
 exact ⟨b,off,cl,aB,aO,L,fy⟩
end
end Go.Proofs.YtkehcalakofigaaGreatDoor
namespace Go.Proofs.YtkehcalakofigaaGreatDoor
open Go aS Go.RowKit
theorem xE {w:World} {p:Addr} {v:Value} (h:w.cell? p=some v):p.block<w.heap.size:=by
 unfold World.cell? at h
 by_cases q:p.block<w.heap.size
 · exact q
 · rw [Array.getElem?_eq_none (by omega)] at h
   cases h
def uz (w:World) (g:Nat):Prop:=∃a6,w.cell? ⟨g,0,none⟩=some a6∧(a6=.nilIface∨∃aiS Qb,a6=.iface aiS Qb)
theorem uz.e8 {w ar:World} {g:Nat} (h:uz w g) (ai:Below w.heap.size w ar):uz ar g:=by
 obtain ⟨a6,aa,ae⟩:=h
 exact ⟨a6,by rw [ai.cell (xE aa)];exact aa,ae⟩
structure D8 (w:World):Prop where
 RX:Lib.Utf8Tabs 0 1 w
 maxLen:∃m,w.cell? ⟨2,0,none⟩=some (.int .i64 m)
 Mx:uz w 4
noncomputable instance lay:Lay where
 ok w:=D8 w
 e8:=by
  intro w ar h ai
  refine ⟨?_,?_,h.Mx.e8 ai⟩
  · obtain ⟨aa,ae⟩:=h.RX
    refine ⟨fun c aw=>?_,fun i av=>?_⟩
    · rw [ai.cell (xE (aa c aw))]
      exact aa c aw
    · obtain ⟨al,aq⟩:=ae i av
      rw [ai.cell (xE al),ai.cell (xE aq)]
      exact ⟨al,aq⟩
  · obtain ⟨m,q⟩:=h.maxLen
    exact ⟨m,by rw [ai.cell (xE q)];exact q⟩
section
open Go.Shelf
def Tryz.ae1:Go.Shelf.Ren:=⟨fun | 144=>120 | 143=>124 | 219=>132 | 217=>103 | 225=>137 | 224=>138 | 267=>139 | 266=>114 | 314=>141 | n=>n,fun | 9=>9 | 4=>4 | 3=>3 | 5=>5 | 46=>80 | 146=>98 | 51=>97 | n=>n,fun | 1=>2 | n=>n⟩
theorem Tryz.ae0:Go.Proofs.Lays.n144 Tryz.prog Tryz.ae1:={
 mixed:=by kernel_rfl,
 f143:=Tryz.func124.trans (congrArg some (by kernel_rfl)),
 f144:=Tryz.func120.trans (congrArg some (by kernel_rfl)),
 f217:=Tryz.func103.trans (congrArg some (by kernel_rfl)),
 f219:=Tryz.func132.trans (congrArg some (by kernel_rfl)),
 f224:=Tryz.func138.trans (congrArg some (by kernel_rfl)),
 f225:=Tryz.func137.trans (congrArg some (by kernel_rfl)),
 f266:=Tryz.func114.trans (congrArg some (by kernel_rfl)),
 f267:=Tryz.func139.trans (congrArg some (by kernel_rfl)),
 f314:=Tryz.func141.trans (congrArg some (by kernel_rfl)),
 t3:=Tryz.underlying3,
 a3:=Tryz.isAgg3,
 z3:=Tryz.sizeOf3,
 v3:=Tryz.zeroValue3,
 t4:=Tryz.underlying4,
 a4:=Tryz.isAgg4,
 z4:=Tryz.sizeOf4,
 v4:=Tryz.zeroValue4,
 t5:=Tryz.underlying5,
 a5:=Tryz.isAgg5,
 z5:=Tryz.sizeOf5,
 v5:=Tryz.zeroValue5,
 t9:=Tryz.underlying9,
 a9:=Tryz.isAgg9,
 z9:=Tryz.sizeOf9,
 v9:=Tryz.zeroValue9,
 t46:=Tryz.underlying80,
 a46:=Tryz.isAgg80,
 z46:=Tryz.sizeOf80,
 v46:=Tryz.zeroValue80,
 t51:=Tryz.underlying97,
 a51:=Tryz.isAgg97,
 z51:=Tryz.sizeOf97,
 v51:=Tryz.zeroValue97,
 t146:=Tryz.underlying98,
 a146:=Tryz.isAgg98,
 z146:=Tryz.sizeOf98,
 v146:=Tryz.zeroValue98,
 g1:=by kernel_rfl}
def Tryz.OJ:Go.Shelf.Ren:=⟨fun | 7=>44 | 10=>58 | n=>n,fun | 23=>55 | 26=>9 | 3=>4 | 28=>60 | 0=>0 | 27=>59 | 33=>75 | 4=>4 | n=>n,fun | n=>n⟩
theorem Tryz.ad7:Go.Proofs.SlLaysZ.n7 Tryz.prog Tryz.OJ where
 mixed:=by kernel_rfl
 f7:=⟨"maps.Keys[map[string]bool,string,bool]",by decide,Tryz.func44.trans (congrArg some (by kernel_rfl))⟩
 f10:=⟨"maps.Keys[map[string]bool,string,bool]$1",by decide,Tryz.func58.trans (congrArg some (by kernel_rfl))⟩
 t0:=Tryz.underlying0
 a0:=Tryz.isAgg0
 z0:=Tryz.sizeOf0
 v0:=Tryz.zeroValue0
 t4:=Tryz.underlying4
 a4:=Tryz.isAgg4
 z4:=Tryz.sizeOf4
 v4:=Tryz.zeroValue4
 t23:=Tryz.underlying55
 a23:=Tryz.isAgg55
 z23:=Tryz.sizeOf55
 v23:=Tryz.zeroValue55
 t26:=Tryz.underlying9
 a26:=Tryz.isAgg9
 z26:=Tryz.sizeOf9
 v26:=Tryz.zeroValue9
 t27:=Tryz.underlying59
 a27:=Tryz.isAgg59
 z27:=Tryz.sizeOf59
 v27:=Tryz.zeroValue59
 t28:=Tryz.underlying60
 a28:=Tryz.isAgg60
 z28:=Tryz.sizeOf60
 v28:=Tryz.zeroValue60
 t33:=Tryz.underlying75
 a33:=Tryz.isAgg75
 z33:=Tryz.sizeOf75
 v33:=Tryz.zeroValue75
def Tryz.Rr:Go.Shelf.Ren:=⟨fun | 6=>43 | 8=>56 | 9=>57 | 11=>68 | 13=>70 | 12=>69 | 23=>89 | 24=>90 | 14=>80 | 15=>81 | 16=>82 | 17=>83 | 18=>84 | 19=>85 | 20=>86 | 21=>87 | 22=>88 | 25=>96 | 26=>97 | 27=>98 | 28=>99 | 29=>100 | 30=>101 | 31=>112 | n=>n,fun | 26=>9 | 28=>60 | 24=>39 | 0=>0 | 3=>3 | 37=>80 | 48=>97 | 50=>100 | 4=>4 | 40=>107 | 39=>106 | 45=>112 | 5=>5 | 9=>9 | 51=>122 | 55=>126 | 57=>131 | 58=>132 | 33=>75 | n=>n,fun | n=>n⟩
theorem Tryz.ais:Go.Proofs.SlLaysZ.n6 Tryz.prog Tryz.Rr where
 mixed:=by kernel_rfl
 f6:=⟨"slices.Sorted[string]",by decide,Tryz.func43.trans (congrArg some (by kernel_rfl))⟩
 f8:=⟨"slices.Collect[string]",by decide,Tryz.func56.trans (congrArg some (by kernel_rfl))⟩
 f11:=⟨"slices.AppendSeq[[]string,string]",by decide,Tryz.func68.trans (congrArg some (by kernel_rfl))⟩
 t0:=Tryz.underlying0
 a0:=Tryz.isAgg0
 z0:=Tryz.sizeOf0
 v0:=Tryz.zeroValue0
 t24:=Tryz.underlying39
 a24:=Tryz.isAgg39
 z24:=Tryz.sizeOf39
 v24:=Tryz.zeroValue39
 t26:=Tryz.underlying9
 a26:=Tryz.isAgg9
 z26:=Tryz.sizeOf9
 v26:=Tryz.zeroValue9
 t28:=Tryz.underlying60
 a28:=Tryz.isAgg60
 z28:=Tryz.sizeOf60
 v28:=Tryz.zeroValue60
 i26:=by kernel_rfl
def Tryz.aiq:Go.Shelf.Ren:=⟨fun | 6=>57 | 8=>70 | 9=>69 | 19=>89 | 20=>90 | 21=>80 | 22=>81 | 23=>82 | 24=>83 | 25=>84 | 26=>85 | 27=>86 | 28=>87 | 29=>88 | 36=>96 | 31=>97 | 32=>98 | 37=>99 | 38=>100 | 39=>101 | 41=>112 | n=>n,fun | 27=>39 | 29=>9 | 3=>3 | 32=>80 | 26=>39 | 0=>0 | 44=>97 | 46=>100 | 4=>4 | 36=>107 | 35=>106 | 41=>112 | 5=>5 | 9=>9 | 53=>122 | 57=>126 | 63=>131 | 64=>132 | n=>n,fun | n=>n⟩
theorem Tryz.Ro:Go.Proofs.SlLaysM.n6 Tryz.prog Tryz.aiq where
 mixed:=by kernel_rfl
 f6:=⟨"slices.Sort[[]string,string]",by decide,Tryz.func57.trans (congrArg some (by kernel_rfl))⟩
 f8:=Tryz.func70.trans (congrArg some (by kernel_rfl))
 f9:=⟨"slices.pdqsortOrdered[string]",by decide,Tryz.func69.trans (congrArg some (by kernel_rfl))⟩
 f19:=Tryz.func89.trans (congrArg some (by kernel_rfl))
 f20:=Tryz.func90.trans (congrArg some (by kernel_rfl))
 f21:=⟨"slices.insertionSortOrdered[string]",by decide,Tryz.func80.trans (congrArg some (by kernel_rfl))⟩
 f22:=⟨"slices.heapSortOrdered[string]",by decide,Tryz.func81.trans (congrArg some (by kernel_rfl))⟩
 f23:=⟨"slices.breakPatternsOrdered[string]",by decide,Tryz.func82.trans (congrArg some (by kernel_rfl))⟩
 f24:=⟨"slices.choosePivotOrdered[string]",by decide,Tryz.func83.trans (congrArg some (by kernel_rfl))⟩
 f25:=⟨"slices.reverseRangeOrdered[string]",by decide,Tryz.func84.trans (congrArg some (by kernel_rfl))⟩
 f26:=⟨"slices.partialInsertionSortOrdered[string]",by decide,Tryz.func85.trans (congrArg some (by kernel_rfl))⟩
 f27:=⟨"cmp.Less[string]",by decide,Tryz.func86.trans (congrArg some (by kernel_rfl))⟩
 f28:=⟨"slices.partitionEqualOrdered[string]",by decide,Tryz.func87.trans (congrArg some (by kernel_rfl))⟩
 f29:=⟨"slices.partitionOrdered[string]",by decide,Tryz.func88.trans (congrArg some (by kernel_rfl))⟩
 f31:=Tryz.func97.trans (congrArg some (by kernel_rfl))
 f32:=Tryz.func98.trans (congrArg some (by kernel_rfl))
 f36:=⟨"slices.siftDownOrdered[string]",by decide,Tryz.func96.trans (congrArg some (by kernel_rfl))⟩
 f37:=⟨"slices.medianAdjacentOrdered[string]",by decide,Tryz.func99.trans (congrArg some (by kernel_rfl))⟩
 f38:=⟨"slices.medianOrdered[string]",by decide,Tryz.func100.trans (congrArg some (by kernel_rfl))⟩
 f39:=⟨"cmp.isNaN[string]",by decide,Tryz.func101.trans (congrArg some (by kernel_rfl))⟩
 f41:=⟨"slices.order2Ordered[string]",by decide,Tryz.func112.trans (congrArg some (by kernel_rfl))⟩
 t0:=Tryz.underlying0
 a0:=Tryz.isAgg0
 z0:=Tryz.sizeOf0
 v0:=Tryz.zeroValue0
 t3:=Tryz.underlying3
 a3:=Tryz.isAgg3
 z3:=Tryz.sizeOf3
 v3:=Tryz.zeroValue3
 t4:=Tryz.underlying4
 a4:=Tryz.isAgg4
 z4:=Tryz.sizeOf4
 v4:=Tryz.zeroValue4
 t5:=Tryz.underlying5
 a5:=Tryz.isAgg5
 z5:=Tryz.sizeOf5
 v5:=Tryz.zeroValue5
 t9:=Tryz.underlying9
 a9:=Tryz.isAgg9
 z9:=Tryz.sizeOf9
 v9:=Tryz.zeroValue9
 t26:=Tryz.underlying39
 a26:=Tryz.isAgg39
 z26:=Tryz.sizeOf39
 v26:=Tryz.zeroValue39
 t27:=Tryz.underlying39
 a27:=Tryz.isAgg39
 z27:=Tryz.sizeOf39
 v27:=Tryz.zeroValue39
 t29:=Tryz.underlying9
 a29:=Tryz.isAgg9
 z29:=Tryz.sizeOf9
 v29:=Tryz.zeroValue9
 t32:=Tryz.underlying80
 a32:=Tryz.isAgg80
 z32:=Tryz.sizeOf80
 v32:=Tryz.zeroValue80
 t35:=Tryz.underlying106
 a35:=Tryz.isAgg106
 z35:=Tryz.sizeOf106
 v35:=Tryz.zeroValue106
 t36:=Tryz.underlying107
 a36:=Tryz.isAgg107
 z36:=Tryz.sizeOf107
 v36:=Tryz.zeroValue107
 t41:=Tryz.underlying112
 a41:=Tryz.isAgg112
 z41:=Tryz.sizeOf112
 v41:=Tryz.zeroValue112
 t44:=Tryz.underlying97
 a44:=Tryz.isAgg97
 z44:=Tryz.sizeOf97
 v44:=Tryz.zeroValue97
 t46:=Tryz.underlying100
 a46:=Tryz.isAgg100
 z46:=Tryz.sizeOf100
 v46:=Tryz.zeroValue100
 t53:=Tryz.underlying122
 a53:=Tryz.isAgg122
 z53:=Tryz.sizeOf122
 v53:=Tryz.zeroValue122
 t57:=Tryz.underlying126
 a57:=Tryz.isAgg126
 z57:=Tryz.sizeOf126
 v57:=Tryz.zeroValue126
 t63:=Tryz.underlying131
 a63:=Tryz.isAgg131
 z63:=Tryz.sizeOf131
 v63:=Tryz.zeroValue131
 t64:=Tryz.underlying132
 a64:=Tryz.isAgg132
 z64:=Tryz.sizeOf132
 v64:=Tryz.zeroValue132
theorem LP (s sub:ByteArray) (m:Int) (w:World) (aR:s.size<4294967281) (hm:w.cell? ⟨2,0,none⟩=some (.int .i64 m)):
 Calls Tryz.prog 120 #[.string s,.string sub] w fun e ar=>e=.returned (.bool (Lib.contains s.data.toList sub.data.toList))∧ar=w:=Any.strings_Contains Tryz.ae0 s sub m w aR hm
end
section
open Go.RowKit Go.Maps Go.Sort Go.Shelf
theorem aiw (m:Nat):AnyZ.SortsIn Tryz.prog Tryz.Rr Fence.wide m:=
 ⟨fun a7 off cap eL W jO iv b7=>callsIn_wide.2 (AnyM.slices_Sort_string Tryz.Ro a7 off cap eL W jO iv b7),
  fun p cap W=>callsIn_wide.2 (AnyM.slices_Sort_string_none Tryz.Ro p cap W)⟩
theorem Rs:aS.Ee Tryz.prog 43 58 9:=by
 intro sy b IB q' R w aaw qh fK qp aaT
 have ab2:SeqGives Fence.wide 2 Tryz.prog 58 #[.pointer (some ⟨sy,0,none⟩)] encStr (fun eL=>eL.Perm (strKeys q')) (Maps.size q') w:=
  AnyZ.keys_gives (ρ:=Tryz.OJ) {Tryz.ad7 with} Fence.wide _ trivial rfl (by omega) sy b IB q' w aaw qh fK
 have FE:=AnyZ.sorted_in Tryz.ais Fence.wide 5 trivial trivial trivial trivial rfl (by omega) (aiw _) (enters_of Tryz.func57 (by kernel_rfl) rfl) 58 #[.pointer (some ⟨sy,0,none⟩)] trivial (enters_of Tryz.func58 (by kernel_rfl) rfl) _ _ qp aaT _ ab2
 change CallsIn _ _ Tryz.prog 43 _ _ _ at FE
 exact callsIn_wide.1 (FE.mono fun e ar q=>by
  obtain ⟨v,eL,rfl,dD,Hz,n',ai⟩:=q
  exact ⟨v,eL,rfl,dD,Hz,n',ai⟩)
end
noncomputable def ctx:Ctx:=⟨Tryz.prog,fun f=>bif Nat.beq f 120 then some FM else bif Nat.beq f 43 then some (Jz 58) else none,fun f=>bif Nat.beq f 114 then some B5 else none⟩
theorem follows:Tryz.prog.follows .mixedOrders=true:=by kernel_rfl
theorem names:(Tryz.prog.funcs.toList.all fun fn=>!(fn.name == "runtime.NumGoroutine"))=true:=by kernel_rfl
theorem cP:ec Tryz.prog:=by
 intro f fn h
 have:=List.all_eq_true.1 names fn (List.mem_of_getElem? (i:=f) (by simpa using h))
 simpa using this
theorem I5:nJ ctx:=by
 refine ⟨fun f p args h v ab aj he=>?_,fun f p args h v ab aj he az E w xs au s=>?_⟩
 · simp only [ctx,gE] at aj
   by_cases aA:f=120
   · rw [if_pos aA] at aj
     cases aj
     subst aA
     obtain ⟨s,sub,rfl,aR,rfl,rfl⟩:=Yx he
     refine ⟨⟨_,Tryz.func120,by kernel_rfl⟩,aeQ fun E xs w ak au=>?_⟩
     obtain ⟨y,cm,rfl,al,z,gD,rfl,aq,rfl⟩:=au
     simp only [Rel] at al aq
     subst al aq
     obtain ⟨m,hm⟩:=ak.maxLen
     refine (LP ⟨⟨s⟩⟩ ⟨⟨sub⟩⟩ m w (by show s.length<4294967281;omega) hm).mono fun e ar q=>?_
     obtain ⟨rfl,rfl⟩:=q
     exact ⟨_,rfl,by simp only [Rel],Below.refl _ _⟩
   · rw [if_neg aA] at aj
     by_cases aA:f=43
     · rw [if_pos aA] at aj
       cases aj
       subst aA
       exact ⟨⟨_,Tryz.func43,by kernel_rfl⟩,fun az E w xs au s=>ait (by decide) Tryz.underlying9 Rs he az E w xs au s⟩
     · rw [if_neg aA] at aj;cases aj
 · simp only [ctx,gE] at aj
   by_cases aA:f=114
   · rw [if_pos aA] at aj
     cases aj
     subst aA
     exact acM (P:=Tryz.prog) Tryz.func114 (by kernel_rfl) (by kernel_rfl) (by kernel_rfl) (by kernel_rfl) he az E w xs au s
   · rw [if_neg aA] at aj;cases aj
end Go.Proofs.YtkehcalakofigaaGreatDoor
namespace Go.Proofs.YtkehcalakofigaaGreatDoor
open Go aS
abbrev ag (d aV:Nat):bw:=⟨some d,.dz (.t aV),none,[aV]⟩
abbrev bE (d aV:Nat):bw:=⟨some d,.gl (.t aV),none,[aV]⟩
abbrev c0 (d aV bo:Nat):bw:=⟨some d,.dz (.t aV),(some (bo,true)),[aV,bo]⟩
abbrev c8 (d aV bo:Nat):bw:=⟨some d,.pick (.t aV) (.t bo) (.c (.bool false)),none,[aV,bo]⟩
abbrev dq (d:Nat):bw:=⟨some d,.dz (.c (.bool false)),none,[]⟩
abbrev dm (d aV:Nat):bw:=⟨some d,.iQ 5 (.t aV),none,[aV]⟩
abbrev dA (d aV:Nat):bw:=⟨some d,.r5 (.t aV),none,[aV]⟩
abbrev ea (d aV:Nat):bw:=⟨some d,.len .slice (.t aV),none,[aV]⟩
abbrev eb (d aV:Nat):bw:=⟨some d,.fR 1 (.t aV),none,[aV]⟩
abbrev eF (d aV:Nat):bw:=⟨some d,.fR 0 (.t aV),none,[aV]⟩
abbrev eN (d aV:Nat):bw:=⟨some d,.bin (.int .add) (.t aV) (.c (.int .i64 1)),none,[aV]⟩
abbrev eO (d:Nat):bw:=⟨some d,.dz (.c (.int .i64 0)),none,[]⟩
abbrev eV (d aV bo:Nat):bw:=⟨some d,.pick (.t aV) (.c (.bool true)) (.t bo),none,[aV,bo]⟩
abbrev fg (d aV bo:Nat):bw:=⟨some d,.bin (.int .lss) (.t aV) (.t bo),none,[aV,bo]⟩
abbrev fh (d aV:Nat):bw:=⟨some d,.fR 4 (.t aV),none,[aV]⟩
abbrev fm (d:Nat):bw:=⟨some d,.dz (.c .bW),none,[]⟩
abbrev fx (d aV bo:Nat):bw:=⟨some d,.gl (.t aV),(some (bo,true)),[aV,bo]⟩
abbrev fI (d aV:Nat):bw:=⟨some d,.box (.t aV),none,[aV]⟩
abbrev gP (d aV bo:Nat):bw:=⟨some d,.b_ 5 (.t aV) (.t bo),none,[aV,bo]⟩
abbrev ho (d aV bo:Nat):bw:=⟨some d,.dz (.t aV),(some (bo,false)),[aV,bo]⟩
abbrev iJ (d aV bo:Nat):bw:=⟨some d,.gl (.t aV),(some (bo,false)),[aV,bo]⟩
abbrev iZ (d aV:Nat):bw:=⟨some d,.fR 3 (.t aV),none,[aV]⟩
abbrev jF (d aV:Nat):bw:=⟨some d,.len .str (.t aV),none,[aV]⟩
abbrev j6 (d aV bo:Nat):bw:=⟨some d,.app 1 (.t aV) (.t bo),none,[aV,bo]⟩
abbrev kC (d aV bo:Nat):bw:=⟨some d,.iQ 5 (.t aV),(some (bo,false)),[aV,bo]⟩
abbrev kD (d:Nat):bw:=⟨some d,.new [(.int .i64 0),(.int .i64 0),(.int .i64 0),(.str []),.bW],none,[]⟩
abbrev ll (d aV bo:Nat):bw:=⟨some d,.b_ 1 (.t aV) (.t bo),none,[aV,bo]⟩
abbrev ln (d aV bo:Nat):bw:=⟨some d,.iQ 5 (.t aV),(some (bo,true)),[aV,bo]⟩
abbrev l7 (d aV:Nat):bw:=⟨some d,.fR 2 (.t aV),none,[aV]⟩
abbrev mM (d aV:Nat):bw:=⟨some d,.un .not (.t aV),none,[aV]⟩
abbrev oM (d aV:Nat):bw:=⟨some d,.hc 1 5 [(.int .i64 0),(.int .i64 0),(.int .i64 0),(.str []),.bW] [(0,5,(.t aV))],none,[aV]⟩
abbrev oN (d aV bo:Nat):bw:=⟨some d,.fR 1 (.t aV),(some (bo,true)),[aV,bo]⟩
abbrev pM (d:Nat):bw:=⟨some d,.dz (.c (.bool true)),none,[]⟩
abbrev ra (d aV:Nat):bw:=⟨some d,.ext (.t aV) 0,none,[aV]⟩
abbrev rb (d aV:Nat):bw:=⟨some d,.ext (.t aV) 1,none,[aV]⟩
abbrev re (d aV:Nat):bw:=⟨some d,.bin (.int .eql) (.t aV) (.c (.int .i64 1)),none,[aV]⟩
abbrev rf (d aV:Nat):bw:=⟨some d,.bin (.int .eql) (.t aV) (.c (.int .i64 0)),none,[aV]⟩
abbrev rh (d aV:Nat):bw:=⟨some d,.bin (.int .eql) (.t aV) (.c (.int .i64 2)),none,[aV]⟩
abbrev sB (d aV bo:Nat):bw:=⟨some d,.un .not (.t aV),(some (bo,false)),[aV,bo]⟩
abbrev uB (d aV bo:Nat):bw:=⟨some d,.bin (.int .neq) (.t aV) (.t bo),none,[aV,bo]⟩
abbrev uC (d aV bo:Nat):bw:=⟨some d,.bin (.int .eql) (.t aV) (.t bo),none,[aV,bo]⟩
abbrev uD (d aV bo:Nat):bw:=⟨some d,.b_ 5 (.t aV) (.c (.int .i64 0)),(some (bo,true)),[aV,bo]⟩
abbrev uE (d aV bo dR:Nat):bw:=⟨some d,.bin (.int .eql) (.t aV) (.t bo),(some (dR,true)),[aV,bo,dR]⟩
abbrev uF (d aV bo:Nat):bw:=⟨some d,.fR 3 (.t aV),(some (bo,true)),[aV,bo]⟩
abbrev uG (d aV bo:Nat):bw:=⟨some d,.fR 4 (.t aV),(some (bo,true)),[aV,bo]⟩
abbrev uH (d aV bo:Nat):bw:=⟨some d,.bin (.int .add) (.t aV) (.t bo),none,[aV,bo]⟩
abbrev uI (d aV bo:Nat):bw:=⟨some d,.bin (.int .sub) (.t aV) (.t bo),none,[aV,bo]⟩
abbrev uJ (d aV:Nat):bw:=⟨some d,.bin (.int .eql) (.t aV) (.c (.int .i64 46)),none,[aV]⟩
abbrev uK (d aV bo:Nat):bw:=⟨some d,.bin (.int .geq) (.t aV) (.t bo),none,[aV,bo]⟩
abbrev uL (d aV:Nat):bw:=⟨some d,.bin (.int .eql) (.t aV) (.c (.int .i64 3)),none,[aV]⟩
abbrev uM (d aV bo:Nat):bw:=⟨some d,.r5 (.t aV),(some (bo,true)),[aV,bo]⟩
abbrev xc (d aV bo dR:Nat):bw:=⟨some d,.bin (.int .neq) (.t aV) (.t bo),(some (dR,false)),[aV,bo,dR]⟩
abbrev xd (d:Nat):bw:=⟨some d,.dz (.c (.int .i64 1)),none,[]⟩
abbrev xe (d aV:Nat):bw:=⟨some d,.b_ 5 (.t aV) (.c (.int .i64 0)),none,[aV]⟩
abbrev xf (d aV bo:Nat):bw:=⟨some d,.fR 1 (.t aV),(some (bo,false)),[aV,bo]⟩
abbrev xg (d aV:Nat):bw:=⟨some d,.hc 1 1 [(.str [])] [(0,1,(.t aV))],none,[aV]⟩
abbrev xh (d aV:Nat):bw:=⟨some d,.bin (.int .eql) (.t aV) (.c (.int .i64 45)),none,[aV]⟩
abbrev xi (d aV bo:Nat):bw:=⟨some d,.fR 0 (.t aV),(some (bo,true)),[aV,bo]⟩
abbrev xj (d:Nat):bw:=⟨some d,.new [(.int .i64 0),(.int .i64 0),(.int .i64 0),(.str [])],none,[]⟩
abbrev z1 (d aV bo:Nat):bw:=⟨some d,.call 15 [(.t aV)],(some (bo,false)),[aV,bo]⟩
abbrev z6 (d aV:Nat):bw:=⟨some d,.bin (.int .sub) (.t aV) (.c (.int .i64 1)),none,[aV]⟩
abbrev z7 (d aV bo dR:Nat):bw:=⟨some d,.bin (.str .eql) (.t aV) (.t bo),(some (dR,true)),[aV,bo,dR]⟩
abbrev z8 (d aV bo:Nat):bw:=⟨some d,.fR 3 (.t aV),(some (bo,false)),[aV,bo]⟩
abbrev z' (d aV:Nat):bw:=⟨some d,.bin (.int .eql) (.t aV) (.c (.int .i64 47)),none,[aV]⟩
abbrev z_ (d aV bo:Nat):bw:=⟨some d,.fR 2 (.t aV),(some (bo,false)),[aV,bo]⟩
abbrev Aa (d aV:Nat):bw:=⟨some d,.bin (.int .eql) (.t aV) (.c (.int .i64 50)),none,[aV]⟩
abbrev Ab (d aV:Nat):bw:=⟨some d,.bin (.int .eql) (.t aV) (.c (.int .i64 5)),none,[aV]⟩
abbrev Ac (d aV:Nat):bw:=⟨some d,.bin (.int .eql) (.t aV) (.c (.int .i64 27)),none,[aV]⟩
abbrev Ad (d aV:Nat):bw:=⟨some d,.bin (.int .geq) (.t aV) (.c (.int .i64 0)),none,[aV]⟩
abbrev Ae (d aV bo:Nat):bw:=⟨some d,.ly (.t aV) [(.t bo)],none,[aV,bo]⟩
abbrev Af (d aV bo:Nat):bw:=⟨some d,.bin (.str .eql) (.t aV) (.t bo),none,[aV,bo]⟩
abbrev Ag (d aV bo:Nat):bw:=⟨some d,.b_ 4 (.t aV) (.c (.int .i64 0)),(some (bo,true)),[aV,bo]⟩
abbrev Ah (d aV bo:Nat):bw:=⟨some d,.k4 (.t aV) (.t bo),none,[aV,bo]⟩
abbrev Ai (d aV:Nat):bw:=⟨some d,.k4 (.t aV) (.c (.int .i64 0)),none,[aV]⟩
abbrev Aj (d aV bo:Nat):bw:=⟨some d,.bin (.int .eql) (.t aV) (.c (.int .u8 95)),(some (bo,false)),[aV,bo]⟩
abbrev DP (d aV bo dR:Nat):bw:=⟨some d,.b_ 5 (.t aV) (.t bo),(some (dR,false)),[aV,bo,dR]⟩
abbrev DQ (d aV bo:Nat):bw:=⟨some d,.bin (.int .add) (.t aV) (.c (.int .i64 1)),(some (bo,true)),[aV,bo]⟩
abbrev DR (d aV bo dR:Nat):bw:=⟨some d,.call 24 [(.t aV),(.t bo)],(some (dR,true)),[aV,bo,dR]⟩
abbrev DS (d aV bo dR:Nat):bw:=⟨some d,.bin (.int .gtr) (.t aV) (.t bo),(some (dR,false)),[aV,bo,dR]⟩
abbrev DT (d aV:Nat):bw:=⟨some d,.bin (.int .eql) (.t aV) (.c (.int .i64 11)),none,[aV]⟩
abbrev DU (d aV:Nat):bw:=⟨some d,.bin (.int .geq) (.t aV) (.c (.int .i64 1)),none,[aV]⟩
abbrev DV (d aV:Nat):bw:=⟨some d,.bin (.int .eql) (.t aV) (.c (.int .i64 4)),none,[aV]⟩
abbrev DW (d aV:Nat):bw:=⟨some d,.bin (.str .eql) (.t aV) (.c (.str [])),none,[aV]⟩
abbrev DX (d aV:Nat):bw:=⟨some d,.bin (.int .eql) (.t aV) (.c (.int .i64 24)),none,[aV]⟩
abbrev DY (d aV:Nat):bw:=⟨some d,.bin (.int .leq) (.t aV) (.c (.int .i64 1)),none,[aV]⟩
abbrev DZ (d aV:Nat):bw:=⟨some d,.bin (.int .eql) (.t aV) (.c (.int .i64 29)),none,[aV]⟩
abbrev D0 (d aV:Nat):bw:=⟨some d,.bin (.int .eql) (.t aV) (.c (.int .i64 30)),none,[aV]⟩
abbrev D1 (d aV:Nat):bw:=⟨some d,.bin (.int .eql) (.t aV) (.c (.int .i64 53)),none,[aV]⟩
abbrev D2 (d aV:Nat):bw:=⟨some d,.call 78 [(.t aV),(.c (.int .u8 97)),(.c (.int .u8 122))],none,[aV]⟩
abbrev D3 (d aV bo:Nat):bw:=⟨some d,.pC (.t aV) (some (.t bo)) none none,none,[aV,bo]⟩
abbrev D4 (d:Nat):bw:=⟨some d,.build [(.int .i64 0),(.int .i64 0),(.int .i64 0),(.str [])] [],none,[]⟩
abbrev Kq (d aV bo:Nat):bw:=⟨some d,.hc 2 5 [(.int .i64 0),(.int .i64 0),(.int .i64 0),(.str []),.bW] [(0,5,(.t aV)),(5,5,(.t bo))],none,[aV,bo]⟩
abbrev Kr (d:Nat):bw:=⟨some d,.hc 8 1 [(.str [])] [(0,1,(.c (.str [43]))),(1,1,(.c (.str [45]))),(2,1,(.c (.str [42]))),(3,1,(.c (.str [47]))),(4,1,(.c (.str [109,111,100]))),(5,1,(.c (.str [61]))),(6,1,(.c (.str [60]))),(7,1,(.c (.str [60,61])))],none,[]⟩
abbrev Ks (d aV:Nat):bw:=⟨some d,.build [(.int .i64 0),(.int .i64 0),(.int .i64 0),(.str [])] [(0,1,(.c (.int .i64 7))),(3,1,(.t aV))],none,[aV]⟩
def Wa:bC:=
 .seq (.seq (.an [ag 15 4,ag 16 0,ea 17 16,fg 18 15 17])
 (.cond (.t 18)
 (.skip)
 (.exit 0)))
 (.seq (.block 1 (.seq (.draw [ag 21 3,ag 22 4,gP 23 21 22,dm 24 23,ag 26 0,ag 27 4,gP 28 26 27,dm 29 28,⟨some 25,.call 13 [(.t 24)],none,[24]⟩,⟨some 30,.call 14 [(.t 29)],none,[29]⟩,uB 31 25 30,ag 32 31,ho 33 3 32,ho 34 4 32,DP 35 33 34 32,kC 36 35 32,ho 38 0 32,ho 39 4 32,DP 40 38 39 32,kC 41 40 32,z1 37 36 32,⟨some 42,.call 16 [(.t 41)],(some (32,false)),[41,32]⟩,xc 43 37 42 32,eV 44 32 43] [(3,[8]),(7,[8,9]),(15,[20]),(19,[20,21])])
 (.cond (.t 44)
 (.seq (.an [dq 2])
 (.ret))
 (.skip))))
 (.an [ag 19 4,eN 20 19,ag 4 20]))
def c3:bC:=
 .seq (.an [dq 2])
 (.seq (.seq (.an [ag 5 0,⟨some 6,.call 8 [(.t 5),(.c (.int .i64 400))],none,[5]⟩])
 (.cond (.t 6)
 (.seq (.an [⟨some 7,.call 9 [],none,[]⟩,ag 2 7])
 (.ret))
 (.skip)))
 (.seq (.an [ag 8 0,⟨some 9,.call 10 [(.t 8)],none,[8]⟩,ag 3 9])
 (.seq (.seq (.an [ag 10 3,⟨some 11,.call 11 [(.t 10)],none,[10]⟩,ag 12 0,⟨some 13,.call 12 [(.t 12)],none,[12]⟩,uB 14 11 13])
 (.cond (.t 14)
 (.seq (.an [dq 2])
 (.ret))
 (.skip)))
 (.seq (.seq (.an [eO 4])
 (.block 0 (.loop Wa)))
 (.seq (.an [ag 45 3,ag 46 0,⟨some 47,.call 17 [(.t 45),(.t 46)],none,[45,46]⟩,ag 48 47,⟨some 49,.call 9 [],(some (48,true)),[48]⟩,c8 50 48 49,ag 2 50])
 (.ret))))))
def WB:bC:=
 .seq (.seq (.an [ag 18 7,ag 19 5,fg 20 18 19])
 (.cond (.t 20)
 (.skip)
 (.exit 0)))
 (.seq (.block 1 (.seq (.an [eO 8])
 (.seq (.seq (.an [ag 23 1,ea 24 23,⟨some 25,.bin (.int .gtr) (.t 24) (.c (.int .i64 0)),none,[24]⟩])
 (.cond (.t 25)
 (.an [ag 26 1,ag 27 7,ag 28 1,ea 29 28,⟨some 30,.bin (.int .rem) (.t 27) (.t 29),none,[27,29]⟩,ll 31 26 30,bE 32 31,⟨some 33,.call 18 [(.t 32),(.c (.int .i64 3))],none,[32]⟩,ag 8 33])
 (.skip)))
 (.draw [⟨some 34,.hc 3 1 [(.int .i64 0)] [(0,1,(.c (.int .i64 39))),(1,1,(.c (.int .i64 36))),(2,1,(.c (.int .i64 34)))],none,[]⟩,ag 35 8,ll 36 34 35,bE 37 36,dm 38 6,oM 39 38,⟨some 40,.build [(.int .i64 0),(.int .i64 0),(.int .i64 0),(.str []),.bW] [(0,1,(.t 37)),(4,1,(.t 39))],none,[37,39]⟩,⟨none,.st 5 (.t 6) (.t 40),none,[6,40]⟩] [(3,[7]),(4,[7])]))))
 (.an [ag 21 7,eN 22 21,ag 7 22]))
def gb:bC:=
 .seq (.an [dq 4])
 (.seq (.seq (.an [ag 10 1,ea 11 10,⟨some 12,.bin (.int .gtr) (.t 11) (.c (.int .i64 20)),none,[11]⟩])
 (.cond (.t 12)
 (.seq (.an [⟨some 13,.call 9 [],none,[]⟩,ag 4 13])
 (.ret))
 (.skip)))
 (.seq (.an [ag 14 0,⟨some 15,.call 18 [(.t 14),(.c (.int .i64 15))],none,[14]⟩,⟨some 16,.bin (.int .add) (.c (.int .i64 190)) (.t 15),none,[15]⟩,ag 5 16])
 (.seq (.an [⟨some 17,.build [(.int .i64 0),(.int .i64 0),(.int .i64 0),(.str []),.bW] [(0,1,(.c (.int .i64 22)))],none,[]⟩,kD 6,⟨none,.st 5 (.t 6) (.t 17),none,[6,17]⟩])
 (.seq (.seq (.an [xd 7])
 (.block 0 (.loop WB)))
 (.seq (.an [⟨some 41,.build [(.int .i64 0),(.int .i64 0),(.int .i64 0),(.str []),.bW] [(0,1,(.c (.int .i64 10)))],none,[]⟩,dm 42 6,Kq 43 41 42,⟨some 44,.build [(.int .i64 0),(.int .i64 0),(.int .i64 0),(.str []),.bW] [(0,1,(.c (.int .i64 52))),(4,1,(.t 43))],none,[43]⟩,oM 45 44,ag 9 45])
 (.seq (.an [ag 46 9,⟨some 47,.call 11 [(.t 46)],none,[46]⟩,ag 48 9,⟨some 49,.call 12 [(.t 48)],none,[48]⟩,uC 50 47 49,ag 51 50,c0 52 9 51,uD 53 52 51,ln 54 53 51,⟨some 55,.call 13 [(.t 54)],(some (51,true)),[54,51]⟩,c0 56 5 51,DQ 57 56 51,uE 58 55 57 51,c8 59 51 58,ag 60 59,c0 61 9 60,uD 62 61 60,ln 63 62 60,⟨some 64,.call 15 [(.t 63)],(some (60,true)),[63,60]⟩,c0 65 5 60,⟨some 66,.bin (.int .add) (.t 65) (.c (.int .i64 2)),(some (60,true)),[65,60]⟩,uE 67 64 66 60,c8 68 60 67,ag 69 68,⟨some 70,.call 9 [],(some (69,true)),[69]⟩,c8 71 69 70,ag 4 71])
 (.ret)))))))
def c5:bC:=
 .seq (.an [fI 2 0,fI 3 1,dq 4])
 (.seq (.seq (.an [dm 8 2,dm 9 3,Kq 10 8 9,⟨some 11,.call 8 [(.t 10),(.c (.int .i64 300))],none,[10]⟩])
 (.cond (.t 11)
 (.seq (.an [⟨some 12,.call 9 [],none,[]⟩,ag 4 12])
 (.ret))
 (.skip)))
 (.seq (.an [dm 13 2,oM 14 13,⟨some 15,.call 10 [(.t 14)],none,[14]⟩,ag 5 15])
 (.seq (.an [ag 16 5,xe 17 16,dm 18 17,⟨some 19,.call 19 [(.t 18)],none,[18]⟩,kD 6,⟨none,.st 5 (.t 6) (.t 19),none,[6,19]⟩])
 (.seq (.draw [dm 20 6,dm 21 2,⟨some 22,.call 21 [(.t 21)],none,[21]⟩,⟨some 23,.call 20 [(.t 20),(.t 22)],none,[20,22]⟩,ag 24 23,c0 25 5 24,uD 26 25 24,ln 27 26 24,ln 28 3 24,ln 30 2 24,ln 31 3 24,⟨some 29,.call 22 [(.t 27),(.t 28)],(some (24,true)),[27,28,24]⟩,⟨some 32,.call 23 [(.t 30),(.t 31)],(some (24,true)),[30,31,24]⟩,⟨some 33,.bin (.vd false) (.t 29) (.t 32),(some (24,true)),[29,32,24]⟩,c8 34 24 33,ag 7 34] [(0,[2,3]),(1,[2]),(7,[11]),(8,[11]),(9,[11,12]),(10,[11,12])])
 (.seq (.draw [ag 35 7,ag 36 35,c0 37 5 36,uD 38 37 36,ln 39 38 36,ln 41 2 36,⟨some 40,.call 25 [(.t 39)],(some (36,true)),[39,36]⟩,⟨some 42,.call 26 [(.t 41)],(some (36,true)),[41,36]⟩,DR 43 40 42 36,c8 44 36 43,ag 45 44,c0 46 5 45,uD 47 46 45,ln 48 47 45,ln 50 2 45,⟨some 49,.call 27 [(.t 48)],(some (45,true)),[48,45]⟩,⟨some 51,.call 28 [(.t 50)],(some (45,true)),[50,45]⟩,DR 52 49 51 45,c8 53 45 52,ag 7 53] [(4,[6]),(5,[6,7]),(13,[15]),(14,[15,16])])
 (.seq (.an [dm 54 6,oM 55 54,⟨some 56,.call 29 [(.t 55)],none,[55]⟩])
 (.seq (.an [ag 57 7,ag 58 57,c0 59 5 58,ln 60 2 58,⟨some 61,.hc 1 5 [(.int .i64 0),(.int .i64 0),(.int .i64 0),(.str []),.bW] [(0,5,(.t 60))],(some (58,true)),[60,58]⟩,⟨some 62,.call 17 [(.t 59),(.t 61)],(some (58,true)),[59,61,58]⟩,c8 63 58 62,ag 64 63,⟨some 65,.call 9 [],(some (64,true)),[64]⟩,c8 66 64 65,ag 4 66])
 (.ret))))))))
theorem WZ:b9 Tryz.prog Tryz.f5.ntmps (Tryz.f5.body.getD .skip)=c5:=by kernel_rfl
theorem W0:cC Tryz.prog Tryz.f5.ntmps Tryz.f5.results.toList=[.t 4]:=by kernel_rfl
theorem WY {args:List V} {h:af} {K:V→af→Prop} (ak:Nat.ble args.length 67=true) (H:b8 Tryz.prog c5 (aT.bh args) h fun e r ab=>e.ends∧∃ad,cv r ab [.t 4]=some ad∧K (oneOf ad) ab):bB Tryz.prog 5 args h K:=
 cY follows cP Tryz.func5 (c:=Tryz.f5.body.getD .skip) (by kernel_rfl) (by kernel_rfl) (by kernel_rfl) ak WZ W0 (by kernel_rfl) H
def XF:bC:=
 .seq (.seq (.an [ag 50 6,ag 51 5,ea 52 51,fg 53 50 52])
 (.cond (.t 53)
 (.skip)
 (.exit 0)))
 (.seq (.block 1 (.seq (.draw [ag 56 5,ag 57 6,z6 58 57,ll 59 56 58,bE 60 59,ag 61 5,ag 62 6,ll 63 61 62,bE 64 63,⟨some 65,.bin (.str .geq) (.t 60) (.t 64),none,[60,64]⟩] [])
 (.cond (.t 65)
 (.seq (.an [dq 2])
 (.ret))
 (.skip))))
 (.an [ag 54 6,eN 55 54,ag 6 55]))
def Fq:bC:=
 .seq (.an [fI 1 0,dq 2])
 (.seq (.an [⟨some 10,.call 6 [],none,[]⟩,ag 3 10])
 (.seq (.seq (.an [dm 11 1,oM 12 11,⟨some 13,.call 8 [(.t 12),(.c (.int .i64 300))],none,[12]⟩])
 (.cond (.t 13)
 (.seq (.an [ag 14 3,ag 2 14])
 (.ret))
 (.skip)))
 (.seq (.an [dm 15 1,⟨some 16,.call 19 [(.t 15)],none,[15]⟩,kD 4,⟨none,.st 5 (.t 4) (.t 16),none,[4,16]⟩])
 (.seq (.seq (.draw [dm 17 1,dm 18 4,⟨some 19,.call 22 [(.t 17),(.t 18)],none,[17,18]⟩,mM 20 19,ag 21 20,kC 22 4 21,kC 23 1 21,⟨some 24,.call 22 [(.t 22),(.t 23)],(some (21,false)),[22,23,21]⟩,sB 25 24 21,eV 26 21 25,ag 27 26,kC 28 1 27,kC 30 4 27,⟨some 29,.call 13 [(.t 28)],(some (27,false)),[28,27]⟩,⟨some 31,.call 13 [(.t 30)],(some (27,false)),[30,27]⟩,xc 32 29 31 27,eV 33 27 32,ag 34 33,kC 35 1 34,kC 37 4 34,z1 36 35 34,z1 38 37 34,xc 39 36 38 34,eV 40 34 39,ag 41 40,kC 42 1 41,kC 44 1 41,⟨some 43,.call 13 [(.t 42)],(some (41,false)),[42,41]⟩,z1 45 44 41,DS 46 43 45 41,eV 47 41 46] [(0,[2]),(1,[2]),(5,[7]),(6,[7]),(11,[13]),(12,[13,14]),(18,[20]),(19,[20,21]),(25,[27]),(26,[27,28])])
 (.cond (.t 47)
 (.seq (.an [dq 2])
 (.ret))
 (.skip)))
 (.seq (.an [dm 48 4,⟨some 49,.call 27 [(.t 48)],none,[48]⟩,ag 5 49])
 (.seq (.seq (.an [xd 6])
 (.block 0 (.loop XF)))
 (.seq (.draw [dm 66 1,oM 67 66,dm 69 4,oM 70 69,⟨some 68,.call 11 [(.t 67)],none,[67]⟩,⟨some 71,.call 11 [(.t 70)],none,[70]⟩,ag 7 68,ag 8 71] [(0,[4]),(2,[4,5])])
 (.seq (.draw [dm 72 1,dm 74 4,⟨some 73,.call 25 [(.t 72)],none,[72]⟩,⟨some 75,.call 25 [(.t 74)],none,[74]⟩,⟨some 76,.call 24 [(.t 73),(.t 75)],none,[73,75]⟩,ag 77 76,c0 78 7 77,⟨some 79,.bin (.int .neq) (.t 78) (.c (.int .i64 0)),(some (77,true)),[78,77]⟩,c0 80 79 77,ho 81 8 80,⟨some 82,.bin (.int .eql) (.t 81) (.c (.int .i64 0)),(some (80,false)),[81,80]⟩,ho 83 82 80,ln 84 1 83,c0 86 5 83,⟨some 85,.call 27 [(.t 84)],(some (83,true)),[84,83]⟩,DR 87 85 86 83,⟨some 88,.pick (.t 83) (.t 87) (.c (.bool false)),(some (80,false)),[83,87,80]⟩,⟨some 89,.pick (.t 80) (.c (.bool true)) (.t 88),(some (77,true)),[80,88,77]⟩,c8 90 77 89,ag 9 90] [(0,[2]),(1,[2,3]),(12,[14])])
 (.seq (.draw [ag 91 3,ag 92 91,c0 93 9 92,c8 94 92 93,ag 95 94,ln 96 4 95,ln 98 4 95,⟨some 97,.call 19 [(.t 96)],(some (95,true)),[96,95]⟩,⟨some 99,.call 20 [(.t 97),(.t 98)],(some (95,true)),[97,98,95]⟩,c8 100 95 99,ag 2 100] [(5,[7]),(6,[7,8])])
 (.ret))))))))))
def lx:bC:=
 .seq (.an [dq 4])
 (.seq (.an [ag 5 0,ag 6 1,⟨some 7,.call 33 [(.t 5),(.t 6)],none,[5,6]⟩,ag 8 1,⟨some 9,.bin (.int .gtr) (.t 7) (.t 8),none,[7,8]⟩,ag 4 9])
 (.ret))
theorem XH:b9 Tryz.prog Tryz.f8.ntmps (Tryz.f8.body.getD .skip)=lx:=by kernel_rfl
theorem XI:cC Tryz.prog Tryz.f8.ntmps Tryz.f8.results.toList=[.t 4]:=by kernel_rfl
theorem XG {args:List V} {h:af} {K:V→af→Prop} (ak:Nat.ble args.length 10=true) (H:b8 Tryz.prog lx (aT.bh args) h fun e r ab=>e.ends∧∃ad,cv r ab [.t 4]=some ad∧K (oneOf ad) ab):bB Tryz.prog 8 args h K:=
 cY follows cP Tryz.func8 (c:=Tryz.f8.body.getD .skip) (by kernel_rfl) (by kernel_rfl) (by kernel_rfl) ak XH XI (by kernel_rfl) H
def Lf:bC:=
 .seq (.seq (.an [ag 6 4,ag 7 0,ea 8 7,fg 9 6 8])
 (.cond (.t 9)
 (.skip)
 (.exit 0)))
 (.seq (.block 1 (.seq (.an [ag 12 0,ag 13 4,gP 14 12 13,dm 15 14,kD 5,⟨none,.st 5 (.t 5) (.t 15),none,[5,15]⟩])
 (.seq (.an [ag 16 0,ag 17 4,gP 18 16 17,fh 19 18,bE 20 19,⟨some 21,.call 10 [(.t 20)],none,[20]⟩,fh 22 5,⟨none,.st 1 (.t 22) (.t 21),none,[22,21]⟩])
 (.an [ag 23 3,dm 24 5,oM 25 24,⟨some 26,.app 5 (.t 23) (.t 25),none,[23,25]⟩,ag 3 26]))))
 (.an [ag 10 4,eN 11 10,ag 4 11]))
def EE:bC:=
 .seq (.an [fm 2])
 (.seq (.an [fm 3])
 (.seq (.seq (.an [eO 4])
 (.block 0 (.loop Lf)))
 (.seq (.an [ag 27 3,ag 2 27])
 (.ret))))
theorem U5:b9 Tryz.prog Tryz.f10.ntmps (Tryz.f10.body.getD .skip)=EE:=by kernel_rfl
theorem U6:cC Tryz.prog Tryz.f10.ntmps Tryz.f10.results.toList=[.t 2]:=by kernel_rfl
theorem U4 {args:List V} {h:af} {K:V→af→Prop} (ak:Nat.ble args.length 28=true) (H:b8 Tryz.prog EE (aT.bh args) h fun e r ab=>e.ends∧∃ad,cv r ab [.t 2]=some ad∧K (oneOf ad) ab):bB Tryz.prog 10 args h K:=
 cY follows cP Tryz.func10 (c:=Tryz.f10.body.getD .skip) (by kernel_rfl) (by kernel_rfl) (by kernel_rfl) ak U5 U6 (by kernel_rfl) H
def Lh:bC:=
 .seq (.seq (.an [ag 11 5,ag 12 0,ea 13 12,fg 14 11 13])
 (.cond (.t 14)
 (.skip)
 (.exit 0)))
 (.seq (.block 1 (.seq (.draw [ag 17 0,ag 18 5,gP 19 17 18,dm 20 19,ag 21 1,ag 22 5,gP 23 21 22,dm 24 23,⟨some 25,.call 20 [(.t 20),(.t 24)],none,[20,24]⟩,mM 26 25] [(3,[8]),(7,[8])])
 (.cond (.t 26)
 (.seq (.an [dq 4])
 (.ret))
 (.skip))))
 (.an [ag 15 5,eN 16 15,ag 5 16]))
def p1:bC:=
 .seq (.an [dq 4])
 (.seq (.seq (.an [ag 6 0,ea 7 6,ag 8 1,ea 9 8,uB 10 7 9])
 (.cond (.t 10)
 (.seq (.an [dq 4])
 (.ret))
 (.skip)))
 (.seq (.seq (.an [eO 5])
 (.block 0 (.loop Lh)))
 (.seq (.an [pM 4])
 (.ret))))
theorem Vo:b9 Tryz.prog Tryz.f17.ntmps (Tryz.f17.body.getD .skip)=p1:=by kernel_rfl
theorem Vp:cC Tryz.prog Tryz.f17.ntmps Tryz.f17.results.toList=[.t 4]:=by kernel_rfl
theorem Vn {args:List V} {h:af} {K:V→af→Prop} (ak:Nat.ble args.length 27=true) (H:b8 Tryz.prog p1 (aT.bh args) h fun e r ab=>e.ends∧∃ad,cv r ab [.t 4]=some ad∧K (oneOf ad) ab):bB Tryz.prog 17 args h K:=
 cY follows cP Tryz.func17 (c:=Tryz.f17.body.getD .skip) (by kernel_rfl) (by kernel_rfl) (by kernel_rfl) ak Vo Vp (by kernel_rfl) H
def Li:bC:=
 .seq (.an [fg 17 16 15])
 (.seq (.cond (.t 17)
 (.skip)
 (.exit 0))
 (.seq (.block 1 (.seq (.an [gP 18 14 16,dm 19 18,kD 5,⟨none,.st 5 (.t 5) (.t 19),none,[5,19]⟩])
 (.draw [fh 20 3,bE 21 20,dm 22 5,⟨some 23,.call 19 [(.t 22)],none,[22]⟩,oM 24 23,⟨some 25,.app 5 (.t 21) (.t 24),none,[21,24]⟩,fh 26 3,⟨none,.st 1 (.t 26) (.t 25),none,[26,25]⟩] [(1,[3,5]),(2,[3])])))
 (.an [eN 27 16,ag 16 27])))
def ES:bC:=
 .seq (.an [fI 1 0,kD 2])
 (.seq (.an [eF 6 1,bE 7 6,eb 8 1,bE 9 8,iZ 10 1,bE 11 10,⟨some 12,.build [(.int .i64 0),(.int .i64 0),(.int .i64 0),(.str []),.bW] [(0,1,(.t 7)),(1,1,(.t 9)),(3,1,(.t 11))],none,[7,9,11]⟩,kD 3,⟨none,.st 5 (.t 3) (.t 12),none,[3,12]⟩])
 (.seq (.seq (.an [fh 13 1,bE 14 13,ea 15 14,eO 16])
 (.block 0 (.loop Li)))
 (.seq (.an [dm 28 3,⟨none,.st 5 (.t 2) (.t 28),none,[2,28]⟩])
 (.ret))))
theorem Vr:b9 Tryz.prog Tryz.f19.ntmps (Tryz.f19.body.getD .skip)=ES:=by kernel_rfl
theorem Vs:cC Tryz.prog Tryz.f19.ntmps Tryz.f19.results.toList=[.j' 2 5]:=by kernel_rfl
theorem Vq {args:List V} {h:af} {K:V→af→Prop} (ak:Nat.ble args.length 29=true) (H:b8 Tryz.prog ES (aT.bh args) h fun e r ab=>e.ends∧∃ad,cv r ab [.j' 2 5]=some ad∧K (oneOf ad) ab):bB Tryz.prog 19 args h K:=
 cY follows cP Tryz.func19 (c:=Tryz.f19.body.getD .skip) (by kernel_rfl) (by kernel_rfl) (by kernel_rfl) ak Vr Vs (by kernel_rfl) H
def ET:bC:=
 .seq (.an [fI 2 0,fI 3 1,dq 4])
 (.seq (.an [eF 5 2,bE 6 5,eF 7 3,bE 8 7,uC 9 6 8,ag 10 9,oN 11 2 10,fx 12 11 10,oN 13 3 10,fx 14 13 10,uE 15 12 14 10,c8 16 10 15,ag 17 16,⟨some 18,.fR 2 (.t 2),(some (17,true)),[2,17]⟩,fx 19 18 17,⟨some 20,.fR 2 (.t 3),(some (17,true)),[3,17]⟩,fx 21 20 17,uE 22 19 21 17,c8 23 17 22,ag 24 23,uF 25 2 24,fx 26 25 24,uF 27 3 24,fx 28 27 24,z7 29 26 28 24,c8 30 24 29,ag 31 30,uG 32 2 31,fx 33 32 31,uG 34 3 31,fx 35 34 31,⟨some 36,.call 17 [(.t 33),(.t 35)],(some (31,true)),[33,35,31]⟩,c8 37 31 36,ag 4 37])
 (.ret))
theorem Vu:b9 Tryz.prog Tryz.f20.ntmps (Tryz.f20.body.getD .skip)=ET:=by kernel_rfl
theorem Vv:cC Tryz.prog Tryz.f20.ntmps Tryz.f20.results.toList=[.t 4]:=by kernel_rfl
theorem Vt {args:List V} {h:af} {K:V→af→Prop} (ak:Nat.ble args.length 38=true) (H:b8 Tryz.prog ET (aT.bh args) h fun e r ab=>e.ends∧∃ad,cv r ab [.t 4]=some ad∧K (oneOf ad) ab):bB Tryz.prog 20 args h K:=
 cY follows cP Tryz.func20 (c:=Tryz.f20.body.getD .skip) (by kernel_rfl) (by kernel_rfl) (by kernel_rfl) ak Vu Vv (by kernel_rfl) H
def Lj:bC:=
 .seq (.seq (.an [ag 5 4,fh 6 1,bE 7 6,ea 8 7,fg 9 5 8])
 (.cond (.t 9)
 (.skip)
 (.exit 0)))
 (.seq (.block 1 (.an [ag 12 3,fh 13 1,bE 14 13,ag 15 4,gP 16 14 15,dm 17 16,⟨some 18,.call 21 [(.t 17)],none,[17]⟩,oM 19 18,⟨some 20,.app 5 (.t 12) (.t 19),none,[12,19]⟩,ag 3 20]))
 (.an [ag 10 4,eN 11 10,ag 4 11]))
def c21:bC:=
 .seq (.an [fI 1 0,kD 2])
 (.seq (.an [fm 3])
 (.seq (.seq (.an [eO 4])
 (.block 0 (.loop Lj)))
 (.seq (.an [eF 21 1,bE 22 21,eb 23 1,bE 24 23,iZ 25 1,bE 26 25,ag 27 3,⟨some 28,.build [(.int .i64 0),(.int .i64 0),(.int .i64 0),(.str []),.bW] [(0,1,(.t 22)),(1,1,(.t 24)),(3,1,(.t 26)),(4,1,(.t 27))],none,[22,24,26,27]⟩,⟨none,.st 5 (.t 2) (.t 28),none,[2,28]⟩])
 (.ret))))
theorem Vx:b9 Tryz.prog Tryz.f21.ntmps (Tryz.f21.body.getD .skip)=c21:=by kernel_rfl
theorem Vy:cC Tryz.prog Tryz.f21.ntmps Tryz.f21.results.toList=[.j' 2 5]:=by kernel_rfl
theorem Vw {args:List V} {h:af} {K:V→af→Prop} (ak:Nat.ble args.length 29=true) (H:b8 Tryz.prog c21 (aT.bh args) h fun e r ab=>e.ends∧∃ad,cv r ab [.j' 2 5]=some ad∧K (oneOf ad) ab):bB Tryz.prog 21 args h K:=
 cY follows cP Tryz.func21 (c:=Tryz.f21.body.getD .skip) (by kernel_rfl) (by kernel_rfl) (by kernel_rfl) ak Vx Vy (by kernel_rfl) H
def EU:bC:=
 .seq (.an [fI 2 0,fI 3 1,dq 4])
 (.seq (.an [eF 5 2,bE 6 5,eF 7 3,bE 8 7,uC 9 6 8,ag 10 9,oN 11 2 10,fx 12 11 10,oN 13 3 10,fx 14 13 10,uE 15 12 14 10,c8 16 10 15,ag 17 16,uF 18 2 17,fx 19 18 17,uF 20 3 17,fx 21 20 17,z7 22 19 21 17,c8 23 17 22,ag 24 23,uG 25 2 24,fx 26 25 24,uG 27 3 24,fx 28 27 24,⟨some 29,.call 41 [(.t 26),(.t 28),(.c (.func 22 []))],(some (24,true)),[26,28,24]⟩,c8 30 24 29,ag 4 30])
 (.ret))
theorem VA:b9 Tryz.prog Tryz.f22.ntmps (Tryz.f22.body.getD .skip)=EU:=by kernel_rfl
theorem VB:cC Tryz.prog Tryz.f22.ntmps Tryz.f22.results.toList=[.t 4]:=by kernel_rfl
theorem Vz {args:List V} {h:af} {K:V→af→Prop} (ak:Nat.ble args.length 31=true) (H:b8 Tryz.prog EU (aT.bh args) h fun e r ab=>e.ends∧∃ad,cv r ab [.t 4]=some ad∧K (oneOf ad) ab):bB Tryz.prog 22 args h K:=
 cY follows cP Tryz.func22 (c:=Tryz.f22.body.getD .skip) (by kernel_rfl) (by kernel_rfl) (by kernel_rfl) ak VA VB (by kernel_rfl) H
def Lk:bC:=
 .seq (.seq (.an [ag 34 5,fh 35 2,bE 36 35,ea 37 36,fg 38 34 37])
 (.cond (.t 38)
 (.skip)
 (.exit 0)))
 (.seq (.block 1 (.seq (.draw [fh 41 2,bE 42 41,ag 43 5,gP 44 42 43,dm 45 44,fh 46 3,bE 47 46,ag 48 5,gP 49 47 48,dm 50 49,⟨some 51,.call 23 [(.t 45),(.t 50)],none,[45,50]⟩,mM 52 51] [(1,[10]),(4,[10]),(6,[10]),(9,[10])])
 (.cond (.t 52)
 (.seq (.an [dq 4])
 (.ret))
 (.skip))))
 (.an [ag 39 5,eN 40 39,ag 5 40]))
def EV:bC:=
 .seq (.an [fI 2 0,fI 3 1,dq 4])
 (.seq (.seq (.an [eF 6 2,bE 7 6,eF 8 3,bE 9 8,uB 10 7 9,ag 11 10,xf 12 2 11,iJ 13 12 11,xf 14 3 11,iJ 15 14 11,xc 16 13 15 11,eV 17 11 16,ag 18 17,z8 19 2 18,iJ 20 19 18,z8 21 3 18,iJ 22 21 18,⟨some 23,.bin (.str .neq) (.t 20) (.t 22),(some (18,false)),[20,22,18]⟩,eV 24 18 23,ag 25 24,⟨some 26,.fR 4 (.t 2),(some (25,false)),[2,25]⟩,iJ 27 26 25,⟨some 28,.len .slice (.t 27),(some (25,false)),[27,25]⟩,⟨some 29,.fR 4 (.t 3),(some (25,false)),[3,25]⟩,iJ 30 29 25,⟨some 31,.len .slice (.t 30),(some (25,false)),[30,25]⟩,xc 32 28 31 25,eV 33 25 32])
 (.cond (.t 33)
 (.seq (.an [dq 4])
 (.ret))
 (.skip)))
 (.seq (.seq (.an [eO 5])
 (.block 0 (.loop Lk)))
 (.seq (.an [pM 4])
 (.ret))))
theorem VD:b9 Tryz.prog Tryz.f23.ntmps (Tryz.f23.body.getD .skip)=EV:=by kernel_rfl
theorem VE:cC Tryz.prog Tryz.f23.ntmps Tryz.f23.results.toList=[.t 4]:=by kernel_rfl
theorem VC {args:List V} {h:af} {K:V→af→Prop} (ak:Nat.ble args.length 53=true) (H:b8 Tryz.prog EV (aT.bh args) h fun e r ab=>e.ends∧∃ad,cv r ab [.t 4]=some ad∧K (oneOf ad) ab):bB Tryz.prog 23 args h K:=
 cY follows cP Tryz.func23 (c:=Tryz.f23.body.getD .skip) (by kernel_rfl) (by kernel_rfl) (by kernel_rfl) ak VD VE (by kernel_rfl) H
def Ll:bC:=
 .seq (.seq (.an [ag 11 5,ag 12 0,ea 13 12,fg 14 11 13])
 (.cond (.t 14)
 (.skip)
 (.exit 0)))
 (.seq (.block 1 (.seq (.draw [ag 17 0,ag 18 5,ll 19 17 18,bE 20 19,ag 21 1,ag 22 5,ll 23 21 22,bE 24 23,⟨some 25,.bin (.str .neq) (.t 20) (.t 24),none,[20,24]⟩] [])
 (.cond (.t 25)
 (.seq (.an [dq 4])
 (.ret))
 (.skip))))
 (.an [ag 15 5,eN 16 15,ag 5 16]))
def EW:bC:=
 .seq (.an [dq 4])
 (.seq (.seq (.an [ag 6 0,ea 7 6,ag 8 1,ea 9 8,uB 10 7 9])
 (.cond (.t 10)
 (.seq (.an [dq 4])
 (.ret))
 (.skip)))
 (.seq (.seq (.an [eO 5])
 (.block 0 (.loop Ll)))
 (.seq (.an [pM 4])
 (.ret))))
theorem VG:b9 Tryz.prog Tryz.f24.ntmps (Tryz.f24.body.getD .skip)=EW:=by kernel_rfl
theorem VH:cC Tryz.prog Tryz.f24.ntmps Tryz.f24.results.toList=[.t 4]:=by kernel_rfl
theorem VF {args:List V} {h:af} {K:V→af→Prop} (ak:Nat.ble args.length 26=true) (H:b8 Tryz.prog EW (aT.bh args) h fun e r ab=>e.ends∧∃ad,cv r ab [.t 4]=some ad∧K (oneOf ad) ab):bB Tryz.prog 24 args h K:=
 cY follows cP Tryz.func24 (c:=Tryz.f24.body.getD .skip) (by kernel_rfl) (by kernel_rfl) (by kernel_rfl) ak VG VH (by kernel_rfl) H
def EY:bC:=
 .an [kD 4,⟨none,.st 5 (.t 4) (.t 7),none,[4,7]⟩]
def EZ:bC:=
 .block 1 (.seq (.an [eF 8 4,bE 9 8,DT 10 9])
 (.cond (.t 10)
 (.an [bE 11 3,iZ 12 4,bE 13 12,xg 14 13,j6 15 11 14,⟨none,.st 1 (.t 3) (.t 15),none,[3,15]⟩])
 (.skip)))
def EX:bC:=
 .seq (.an [fI 1 0,fm 2])
 (.seq (.an [⟨some 3,.new [.bW],none,[]⟩])
 (.seq (.seq (.an [dm 5 1,⟨some 6,.call 40 [(.t 5)],none,[5]⟩])
 (.block 0 (bC.range (.t 6) [7] 17 EY EZ)))
 (.seq (.an [bE 16 3,ag 2 16])
 (.ret))))
theorem VJ:b9 Tryz.prog Tryz.f25.ntmps (Tryz.f25.body.getD .skip)=EX:=by kernel_rfl
theorem VK:cC Tryz.prog Tryz.f25.ntmps Tryz.f25.results.toList=[.t 2]:=by kernel_rfl
theorem VI {args:List V} {h:af} {K:V→af→Prop} (ak:Nat.ble args.length 17=true) (H:b8 Tryz.prog EX (aT.bh args) h fun e r ab=>e.ends∧∃ae,rY (r ey).list ab=some ae∧∃ad,cv r ae [.t 2]=some ad∧K (oneOf ad) ae):bB Tryz.prog 25 args h K:=
 YH follows cP Tryz.func25 (c:=Tryz.f25.body.getD .skip) (by kernel_rfl) (by kernel_rfl) (by kernel_rfl) ak VJ VK H
def Lm:bC:=
 .seq (.seq (.an [ag 13 4,fh 14 1,bE 15 14,ea 16 15,fg 17 13 16])
 (.cond (.t 17)
 (.skip)
 (.exit 0)))
 (.seq (.block 1 (.an [ag 20 3,fh 21 1,bE 22 21,ag 23 4,gP 24 22 23,dm 25 24,⟨some 26,.call 26 [(.t 25)],none,[25]⟩,j6 27 20 26,ag 3 27]))
 (.an [ag 18 4,eN 19 18,ag 4 19]))
def E0:bC:=
 .seq (.an [fI 1 0,fm 2])
 (.seq (.an [fm 3])
 (.seq (.seq (.an [eF 5 1,bE 6 5,DT 7 6])
 (.cond (.t 7)
 (.an [ag 8 3,iZ 9 1,bE 10 9,xg 11 10,j6 12 8 11,ag 3 12])
 (.skip)))
 (.seq (.seq (.an [eO 4])
 (.block 0 (.loop Lm)))
 (.seq (.an [ag 28 3,ag 2 28])
 (.ret)))))
theorem VM:b9 Tryz.prog Tryz.f26.ntmps (Tryz.f26.body.getD .skip)=E0:=by kernel_rfl
theorem VN:cC Tryz.prog Tryz.f26.ntmps Tryz.f26.results.toList=[.t 2]:=by kernel_rfl
theorem VL {args:List V} {h:af} {K:V→af→Prop} (ak:Nat.ble args.length 29=true) (H:b8 Tryz.prog E0 (aT.bh args) h fun e r ab=>e.ends∧∃ad,cv r ab [.t 2]=some ad∧K (oneOf ad) ab):bB Tryz.prog 26 args h K:=
 cY follows cP Tryz.func26 (c:=Tryz.f26.body.getD .skip) (by kernel_rfl) (by kernel_rfl) (by kernel_rfl) ak VM VN (by kernel_rfl) H
def Ln:bC:=
 .seq (.seq (.an [ag 3 2,ag 4 0,ea 5 4,fg 6 3 5])
 (.cond (.t 6)
 (.skip)
 (.exit 0)))
 (.seq (.block 1 (.seq (.an [ag 9 0,ag 10 2,gP 11 9 10,fh 12 11,bE 13 12,⟨some 14,.call 29 [(.t 13)],none,[13]⟩])
 (.an [ag 15 0,ag 16 2,⟨some 17,.build [(.int .i64 0),(.int .i64 0),(.int .i64 0),(.str []),.bW] [(0,1,(.c (.int .i64 77)))],none,[]⟩,gP 18 15 16,⟨none,.st 5 (.t 18) (.t 17),none,[18,17]⟩])))
 (.an [ag 7 2,eN 8 7,ag 2 8]))
def kK:bC:=
 .seq (.an [eO 2])
 (.block 0 (.loop Ln))
theorem VV:b9 Tryz.prog Tryz.f29.ntmps (Tryz.f29.body.getD .skip)=kK:=by kernel_rfl
theorem VW:cC Tryz.prog Tryz.f29.ntmps Tryz.f29.results.toList=[]:=by kernel_rfl
theorem VU {args:List V} {h:af} {K:V→af→Prop} (ak:Nat.ble args.length 19=true) (H:b8 Tryz.prog kK (aT.bh args) h fun e r ab=>e.ends∧∃ad,cv r ab []=some ad∧K (oneOf ad) ab):bB Tryz.prog 29 args h K:=
 cY follows cP Tryz.func29 (c:=Tryz.f29.body.getD .skip) (by kernel_rfl) (by kernel_rfl) (by kernel_rfl) ak VV VW (by kernel_rfl) H
def Lo:bC:=
 .seq (.seq (.an [ag 7 6,ag 8 0,ea 9 8,fg 10 7 9,ag 11 10,c0 12 5 11,c0 13 1 11,⟨some 14,.bin (.int .leq) (.t 12) (.t 13),(some (11,true)),[12,13,11]⟩,c8 15 11 14])
 (.cond (.t 15)
 (.skip)
 (.exit 0)))
 (.seq (.block 1 (.seq (.an [ag 18 5,eN 19 18,ag 20 0,ag 21 6,gP 22 20 21,iZ 23 22,bE 24 23,jF 25 24,⟨some 26,.bin (.int .quo) (.t 25) (.c (.int .i64 100)),none,[25]⟩,uH 27 19 26,ag 5 27])
 (.an [ag 28 5,ag 29 0,ag 30 6,gP 31 29 30,fh 32 31,bE 33 32,ag 34 1,ag 35 5,uI 36 34 35,⟨some 37,.call 33 [(.t 33),(.t 36)],none,[33,36]⟩,uH 38 28 37,ag 5 38])))
 (.an [ag 16 6,eN 17 16,ag 6 17]))
def E2:bC:=
 .seq (.an [eO 4])
 (.seq (.an [eO 5])
 (.seq (.seq (.an [eO 6])
 (.block 0 (.loop Lo)))
 (.seq (.an [ag 39 5,ag 4 39])
 (.ret))))
theorem VY:b9 Tryz.prog Tryz.f33.ntmps (Tryz.f33.body.getD .skip)=E2:=by kernel_rfl
theorem VZ:cC Tryz.prog Tryz.f33.ntmps Tryz.f33.results.toList=[.t 4]:=by kernel_rfl
theorem VX {args:List V} {h:af} {K:V→af→Prop} (ak:Nat.ble args.length 40=true) (H:b8 Tryz.prog E2 (aT.bh args) h fun e r ab=>e.ends∧∃ad,cv r ab [.t 4]=some ad∧K (oneOf ad) ab):bB Tryz.prog 33 args h K:=
 cY follows cP Tryz.func33 (c:=Tryz.f33.body.getD .skip) (by kernel_rfl) (by kernel_rfl) (by kernel_rfl) ak VY VZ (by kernel_rfl) H
def E3:bC:=
 .seq (.an [eO 2])
 (.seq (.block 0 (.seq (.an [ag 4 0,DU 5 4,ag 6 5,c0 7 0 6,⟨some 8,.bin (.int .leq) (.t 7) (.c (.int .i64 4)),(some (6,true)),[7,6]⟩,c8 9 6 8,ag 3 9])
 (.cond (.t 3)
 (.seq (.an [xd 2])
 (.ret))
 (.seq (.an [ag 11 0,⟨some 12,.bin (.int .geq) (.t 11) (.c (.int .i64 10)),none,[11]⟩,ag 13 12,c0 14 0 13,⟨some 15,.bin (.int .leq) (.t 14) (.c (.int .i64 16)),(some (13,true)),[14,13]⟩,c8 16 13 15,ag 10 16])
 (.cond (.t 10)
 (.seq (.an [⟨some 2,.dz (.c (.int .i64 2)),none,[]⟩])
 (.ret))
 (.seq (.an [ag 18 0,⟨some 19,.bin (.int .geq) (.t 18) (.c (.int .i64 20)),none,[18]⟩,ag 20 19,c0 21 0 20,⟨some 22,.bin (.int .leq) (.t 21) (.c (.int .i64 39)),(some (20,true)),[21,20]⟩,c8 23 20 22,ag 17 23])
 (.cond (.t 17)
 (.seq (.an [⟨some 2,.dz (.c (.int .i64 3)),none,[]⟩])
 (.ret))
 (.seq (.an [ag 25 0,xh 26 25,ag 24 26])
 (.cond (.t 24)
 (.seq (.an [⟨some 2,.dz (.c (.int .i64 4)),none,[]⟩])
 (.ret))
 (.seq (.an [ag 28 0,uJ 29 28,ag 27 29])
 (.cond (.t 27)
 (.seq (.an [⟨some 2,.dz (.c (.int .i64 5)),none,[]⟩])
 (.ret))
 (.seq (.an [ag 31 0,z' 32 31,ag 30 32])
 (.cond (.t 30)
 (.seq (.an [⟨some 2,.dz (.c (.int .i64 6)),none,[]⟩])
 (.ret))
 (.seq (.an [ag 34 0,⟨some 35,.bin (.int .geq) (.t 34) (.c (.int .i64 50)),none,[34]⟩,ag 36 35,c0 37 0 36,⟨some 38,.bin (.int .leq) (.t 37) (.c (.int .i64 53)),(some (36,true)),[37,36]⟩,c8 39 36 38,ag 33 39])
 (.cond (.t 33)
 (.seq (.an [⟨some 2,.dz (.c (.int .i64 7)),none,[]⟩])
 (.ret))
 (.skip))))))))))))))))
 (.seq (.an [eO 2])
 (.ret)))
theorem V1:b9 Tryz.prog Tryz.f36.ntmps (Tryz.f36.body.getD .skip)=E3:=by kernel_rfl
theorem V2:cC Tryz.prog Tryz.f36.ntmps Tryz.f36.results.toList=[.t 2]:=by kernel_rfl
theorem V0 {args:List V} {h:af} {K:V→af→Prop} (ak:Nat.ble args.length 40=true) (H:b8 Tryz.prog E3 (aT.bh args) h fun e r ab=>e.ends∧∃ad,cv r ab [.t 2]=some ad∧K (oneOf ad) ab):bB Tryz.prog 36 args h K:=
 cY follows cP Tryz.func36 (c:=Tryz.f36.body.getD .skip) (by kernel_rfl) (by kernel_rfl) (by kernel_rfl) ak V1 V2 (by kernel_rfl) H
def Lp:bC:=
 .seq (.an [fg 88 87 86])
 (.seq (.cond (.t 88)
 (.skip)
 (.exit 0))
 (.seq (.block 1 (.seq (.an [ag 89 87,gP 90 85 87,dm 91 90,kD 10,ag 9 89,⟨none,.st 5 (.t 10) (.t 91),none,[10,91]⟩])
 (.seq (.an [eb 92 5,bE 93 92,ag 11 93])
 (.seq (.block 2 (.seq (.an [ag 95 9,ag 96 7,ea 97 96,fg 98 95 97,ag 94 98])
 (.cond (.t 94)
 (.an [ag 99 7,ag 100 9,ll 101 99 100,bE 102 101,ag 11 102])
 (.seq (.an [ag 104 9,ag 105 7,ea 106 105,ag 107 8,uH 108 106 107,uK 109 104 108,ag 103 109])
 (.cond (.t 103)
 (.an [fh 110 5,bE 111 110,ag 112 9,ag 113 7,ea 114 113,uI 115 112 114,ag 116 8,uI 117 115 116,ll 118 111 117,bE 119 118,ag 11 119])
 (.skip))))))
 (.seq (.an [dm 120 10,ag 121 11,⟨some 122,.call 48 [(.t 120),(.t 121)],none,[120,121]⟩,mM 123 122,ag 124 123,ho 125 0 124,kC 126 10 124,⟨some 127,.call 37 [(.t 125),(.t 126)],(some (124,false)),[125,126,124]⟩,sB 128 127 124,eV 129 124 128])
 (.cond (.t 129)
 (.seq (.an [dq 4])
 (.ret))
 (.skip)))))))
 (.an [eN 130 87,ag 87 130])))
def E4:bC:=
 .seq (.an [fI 3 1,dq 4])
 (.seq (.an [ag 13 0,eF 14 3,bE 15 14,⟨some 16,.look .int (.agg [.bW,(.int .i64 0),(.int .i64 0),(.int .i64 0),.bW,(.int .i64 0),(.int .i64 0),(.int .i64 0)]) true (.t 13) (.t 15),none,[13,15]⟩,ag 12 16,ra 17 12,rb 18 12,⟨some 5,.new [.bW,(.int .i64 0),(.int .i64 0),(.int .i64 0),.bW,(.int .i64 0),(.int .i64 0),(.int .i64 0)],none,[]⟩,⟨none,.st 8 (.t 5) (.t 17),none,[5,17]⟩,ag 6 18])
 (.seq (.seq (.an [ag 19 6,mM 20 19,ag 21 20,xf 22 3 21,iJ 23 22 21,⟨some 24,.fR 5 (.t 5),(some (21,false)),[5,21]⟩,⟨some 25,.rO 2 1 (.t 24) (.c (.int .i64 0)),(some (21,false)),[24,21]⟩,iJ 26 25 21,⟨some 27,.bin (.int .lss) (.t 23) (.t 26),(some (21,false)),[23,26,21]⟩,eV 28 21 27,ag 29 28,xf 30 3 29,iJ 31 30 29,⟨some 32,.fR 5 (.t 5),(some (29,false)),[5,29]⟩,⟨some 33,.rO 2 1 (.t 32) (.c (.int .i64 1)),(some (29,false)),[32,29]⟩,iJ 34 33 29,DS 35 31 34 29,eV 36 29 35,ag 37 36,z_ 38 3 37,iJ 39 38 37,⟨some 40,.bin (.int .lss) (.t 39) (.c (.int .i64 0)),(some (37,false)),[39,37]⟩,eV 41 37 40,ag 42 41,z_ 43 3 42,iJ 44 43 42,⟨some 45,.bin (.int .gtr) (.t 44) (.c (.int .i64 65536)),(some (42,false)),[44,42]⟩,eV 46 42 45,ag 47 46,⟨some 48,.fR 7 (.t 5),(some (47,false)),[5,47]⟩,iJ 49 48 47,z8 50 3 47,iJ 51 50 47,⟨some 52,.call 46 [(.t 49),(.t 51)],(some (47,false)),[49,51,47]⟩,sB 53 52 47,eV 54 47 53])
 (.cond (.t 54)
 (.seq (.an [dq 4])
 (.ret))
 (.skip)))
 (.seq (.an [eF 55 5,bE 56 55,ag 7 56])
 (.seq (.seq (.an [eF 57 3,bE 58 57,Aa 59 58])
 (.cond (.t 59)
 (.an [⟨some 60,.hc 1 1 [(.int .i64 0)] [(0,1,(.c (.int .i64 8)))],none,[]⟩,eb 61 3,bE 62 61,⟨some 63,.call 47 [(.t 60),(.t 62)],none,[60,62]⟩,ag 7 63])
 (.skip)))
 (.seq (.an [fh 64 3,bE 65 64,ea 66 65,ag 67 7,ea 68 67,uI 69 66 68,fh 70 5,bE 71 70,ea 72 71,uI 73 69 72,ag 8 73])
 (.seq (.seq (.an [ag 74 8,l7 75 5,bE 76 75,fg 77 74 76,ag 78 77,ho 79 8 78,z8 80 5 78,iJ 81 80 78,DS 82 79 81 78,eV 83 78 82])
 (.cond (.t 83)
 (.seq (.an [dq 4])
 (.ret))
 (.skip)))
 (.seq (.seq (.an [fh 84 3,bE 85 84,ea 86 85,eO 87])
 (.block 0 (.loop Lp)))
 (.seq (.an [pM 4])
 (.ret)))))))))
theorem V4:b9 Tryz.prog Tryz.f37.ntmps (Tryz.f37.body.getD .skip)=E4:=by kernel_rfl
theorem V5:cC Tryz.prog Tryz.f37.ntmps Tryz.f37.results.toList=[.t 4]:=by kernel_rfl
theorem V3 {args:List V} {h:af} {K:V→af→Prop} (ak:Nat.ble args.length 131=true) (H:b8 Tryz.prog E4 (aT.bh args) h fun e r ab=>e.ends∧∃ad,cv r ab [.t 4]=some ad∧K (oneOf ad) ab):bB Tryz.prog 37 args h K:=
 cY follows cP Tryz.func37 (c:=Tryz.f37.body.getD .skip) (by kernel_rfl) (by kernel_rfl) (by kernel_rfl) ak V4 V5 (by kernel_rfl) H
def E5:bC:=
 .seq (.an [eO 2])
 (.seq (.block 0 (.seq (.an [ag 4 0,DU 5 4,ag 6 5,c0 7 0 6,⟨some 8,.bin (.int .leq) (.t 7) (.c (.int .i64 4)),(some (6,true)),[7,6]⟩,c8 9 6 8,ag 3 9])
 (.cond (.t 3)
 (.seq (.an [xd 2])
 (.ret))
 (.seq (.an [ag 11 0,⟨some 12,.bin (.int .geq) (.t 11) (.c (.int .i64 10)),none,[11]⟩,ag 13 12,c0 14 0 13,⟨some 15,.bin (.int .leq) (.t 14) (.c (.int .i64 16)),(some (13,true)),[14,13]⟩,c8 16 13 15,ag 10 16])
 (.cond (.t 10)
 (.seq (.an [⟨some 2,.dz (.c (.int .i64 2)),none,[]⟩])
 (.ret))
 (.seq (.an [ag 18 0,⟨some 19,.bin (.int .geq) (.t 18) (.c (.int .i64 20)),none,[18]⟩,ag 20 19,c0 21 0 20,⟨some 22,.bin (.int .leq) (.t 21) (.c (.int .i64 39)),(some (20,true)),[21,20]⟩,c8 23 20 22,ag 17 23])
 (.cond (.t 17)
 (.seq (.an [⟨some 2,.dz (.c (.int .i64 3)),none,[]⟩])
 (.ret))
 (.seq (.an [ag 25 0,xh 26 25,ag 24 26])
 (.cond (.t 24)
 (.seq (.an [⟨some 2,.dz (.c (.int .i64 4)),none,[]⟩])
 (.ret))
 (.seq (.an [ag 28 0,uJ 29 28,ag 27 29])
 (.cond (.t 27)
 (.seq (.an [⟨some 2,.dz (.c (.int .i64 5)),none,[]⟩])
 (.ret))
 (.seq (.an [ag 31 0,z' 32 31,ag 30 32])
 (.cond (.t 30)
 (.seq (.an [⟨some 2,.dz (.c (.int .i64 6)),none,[]⟩])
 (.ret))
 (.seq (.an [ag 34 0,⟨some 35,.bin (.int .geq) (.t 34) (.c (.int .i64 50)),none,[34]⟩,ag 36 35,c0 37 0 36,⟨some 38,.bin (.int .leq) (.t 37) (.c (.int .i64 53)),(some (36,true)),[37,36]⟩,c8 39 36 38,ag 33 39])
 (.cond (.t 33)
 (.seq (.an [⟨some 2,.dz (.c (.int .i64 7)),none,[]⟩])
 (.ret))
 (.skip))))))))))))))))
 (.seq (.an [eO 2])
 (.ret)))
theorem V7:b9 Tryz.prog Tryz.f38.ntmps (Tryz.f38.body.getD .skip)=E5:=by kernel_rfl
theorem V8:cC Tryz.prog Tryz.f38.ntmps Tryz.f38.results.toList=[.t 2]:=by kernel_rfl
theorem V6 {args:List V} {h:af} {K:V→af→Prop} (ak:Nat.ble args.length 40=true) (H:b8 Tryz.prog E5 (aT.bh args) h fun e r ab=>e.ends∧∃ad,cv r ab [.t 2]=some ad∧K (oneOf ad) ab):bB Tryz.prog 38 args h K:=
 cY follows cP Tryz.func38 (c:=Tryz.f38.body.getD .skip) (by kernel_rfl) (by kernel_rfl) (by kernel_rfl) ak V7 V8 (by kernel_rfl) H
def Lq:bC:=
 .seq (.seq (.an [ag 38 5,fh 39 1,bE 40 39,ea 41 40,fg 42 38 41])
 (.cond (.t 42)
 (.skip)
 (.exit 0)))
 (.seq (.block 1 (.seq (.an [dq 6])
 (.seq (.seq (.an [ag 45 3,ag 46 5,ll 47 45 46,bE 48 47,⟨some 49,.bin (.int .eql) (.t 48) (.c (.int .i64 8)),none,[48]⟩])
 (.cond (.t 49)
 (.an [fh 50 1,bE 51 50,ag 52 5,gP 53 51 52,eF 54 53,bE 55 54,re 56 55,ag 6 56])
 (.draw [fh 57 1,bE 58 57,ag 59 5,gP 60 58 59,eF 61 60,bE 62 61,ag 64 3,ag 65 5,ll 66 64 65,bE 67 66,⟨some 63,.call 38 [(.t 62)],none,[62]⟩,uC 68 63 67,ag 6 68] [(1,[10]),(5,[10]),(9,[10,13])])))
 (.seq (.an [ag 69 6,mM 70 69,ag 71 70,⟨some 72,.fR 4 (.t 1),(some (71,false)),[1,71]⟩,iJ 73 72 71,ho 74 5 71,DP 75 73 74 71,kC 76 75 71,⟨some 77,.call 39 [(.t 76)],(some (71,false)),[76,71]⟩,sB 78 77 71,eV 79 71 78])
 (.cond (.t 79)
 (.seq (.an [dq 2])
 (.ret))
 (.skip))))))
 (.an [ag 43 5,eN 44 43,ag 5 44]))
def E6:bC:=
 .seq (.an [fI 1 0,dq 2])
 (.seq (.seq (.an [eF 7 1,bE 8 7,⟨some 9,.call 38 [(.t 8)],none,[8]⟩,rf 10 9,ag 11 10,kC 12 1 11,⟨some 13,.call 49 [(.t 12)],(some (11,false)),[12,11]⟩,sB 14 13 11,eV 15 11 14,ag 16 15,kC 17 1 16,⟨some 18,.call 50 [(.t 17)],(some (16,false)),[17,16]⟩,sB 19 18 16,eV 20 16 19,ag 21 20,z_ 22 1 21,iJ 23 22 21,⟨some 24,.bin (.int .lss) (.t 23) (.c (.int .i64 0)),(some (21,false)),[23,21]⟩,eV 25 21 24,ag 26 25,z_ 27 1 26,iJ 28 27 26,⟨some 29,.bin (.int .gtr) (.t 28) (.c (.int .i64 65536)),(some (26,false)),[28,26]⟩,eV 30 26 29])
 (.cond (.t 30)
 (.seq (.an [dq 2])
 (.ret))
 (.skip)))
 (.seq (.an [dm 32 1,⟨some 33,.call 51 [(.t 32)],none,[32]⟩,ag 31 33,ra 34 31,rb 35 31,ag 3 34,ag 4 35])
 (.seq (.seq (.an [ag 36 4,mM 37 36])
 (.cond (.t 37)
 (.seq (.an [dq 2])
 (.ret))
 (.skip)))
 (.seq (.seq (.an [eO 5])
 (.block 0 (.loop Lq)))
 (.seq (.an [pM 2])
 (.ret))))))
theorem V':b9 Tryz.prog Tryz.f39.ntmps (Tryz.f39.body.getD .skip)=E6:=by kernel_rfl
theorem V_:cC Tryz.prog Tryz.f39.ntmps Tryz.f39.results.toList=[.t 2]:=by kernel_rfl
theorem V9 {args:List V} {h:af} {K:V→af→Prop} (ak:Nat.ble args.length 80=true) (H:b8 Tryz.prog E6 (aT.bh args) h fun e r ab=>e.ends∧∃ad,cv r ab [.t 2]=some ad∧K (oneOf ad) ab):bB Tryz.prog 39 args h K:=
 cY follows cP Tryz.func39 (c:=Tryz.f39.body.getD .skip) (by kernel_rfl) (by kernel_rfl) (by kernel_rfl) ak V' V_ (by kernel_rfl) H
def E7:bC:=
 .seq (.an [fI 1 0,⟨some 2,.dz (.c .js),none,[]⟩])
 (.seq (.an [⟨some 3,.fn 52 [(.t 1)],none,[1]⟩,ag 2 3])
 (.ret))
theorem Wc:b9 Tryz.prog Tryz.f40.ntmps (Tryz.f40.body.getD .skip)=E7:=by kernel_rfl
theorem Wd:cC Tryz.prog Tryz.f40.ntmps Tryz.f40.results.toList=[.t 2]:=by kernel_rfl
theorem Wb {args:List V} {h:af} {K:V→af→Prop} (ak:Nat.ble args.length 4=true) (H:b8 Tryz.prog E7 (aT.bh args) h fun e r ab=>e.ends∧∃ad,cv r ab [.t 2]=some ad∧K (oneOf ad) ab):bB Tryz.prog 40 args h K:=
 cY follows cP Tryz.func40 (c:=Tryz.f40.body.getD .skip) (by kernel_rfl) (by kernel_rfl) (by kernel_rfl) ak Wc Wd (by kernel_rfl) H
def E_:bC:=
 .seq (.an [dq 4])
 (.seq (.seq (.an [ag 5 0])
 (.block 0 (.seq (.an [re 7 5,ag 6 7])
 (.cond (.t 6)
 (.seq (.an [ag 8 1,⟨some 9,.call 62 [(.c (.int .i64 3)),(.t 8)],none,[8]⟩,ag 4 9])
 (.ret))
 (.seq (.an [rh 11 5,ag 10 11])
 (.cond (.t 10)
 (.seq (.an [ag 12 1,⟨some 13,.call 62 [(.c (.int .i64 4)),(.t 12)],none,[12]⟩,ag 4 13])
 (.ret))
 (.seq (.an [uL 15 5,ag 14 15])
 (.cond (.t 14)
 (.seq (.an [ag 16 1,⟨some 17,.call 62 [(.c (.int .i64 5)),(.t 16)],none,[16]⟩,ag 4 17])
 (.ret))
 (.seq (.an [DV 19 5,ag 18 19])
 (.cond (.t 18)
 (.seq (.an [ag 20 1,jF 21 20,⟨some 22,.bin (.int .leq) (.t 21) (.c (.int .i64 4096)),none,[21]⟩,ag 4 22])
 (.ret))
 (.seq (.an [Ab 24 5,ag 23 24])
 (.cond (.t 23)
 (.seq (.an [Kr 25,ag 26 1,⟨some 27,.call 63 [(.t 25),(.t 26)],none,[25,26]⟩,ag 4 27])
 (.ret))
 (.skip)))))))))))))
 (.seq (.an [ag 28 1,DW 29 28,ag 4 29])
 (.ret)))
theorem Wq:b9 Tryz.prog Tryz.f46.ntmps (Tryz.f46.body.getD .skip)=E_:=by kernel_rfl
theorem Wr:cC Tryz.prog Tryz.f46.ntmps Tryz.f46.results.toList=[.t 4]:=by kernel_rfl
theorem Wp {args:List V} {h:af} {K:V→af→Prop} (ak:Nat.ble args.length 30=true) (H:b8 Tryz.prog E_ (aT.bh args) h fun e r ab=>e.ends∧∃ad,cv r ab [.t 4]=some ad∧K (oneOf ad) ab):bB Tryz.prog 46 args h K:=
 cY follows cP Tryz.func46 (c:=Tryz.f46.body.getD .skip) (by kernel_rfl) (by kernel_rfl) (by kernel_rfl) ak Wq Wr (by kernel_rfl) H
def Lt:bC:=
 .seq (.seq (.an [ag 34 8,ag 35 7,ea 36 35,fg 37 34 36])
 (.cond (.t 37)
 (.skip)
 (.exit 0)))
 (.block 1 (.draw [ag 38 8,ag 39 7,ag 40 8,⟨some 41,.eC 1 (.t 39) (some (.t 40)) none none,none,[39,40]⟩,ag 42 7,ag 43 8,⟨some 44,.eC 1 (.t 42) none (some (.t 43)) none,none,[42,43]⟩,⟨some 45,.copy 1 (.t 41) (.t 44),none,[41,44]⟩,uH 46 38 45,ag 8 46] []))
def Fa:bC:=
 .seq (.an [fm 4])
 (.seq (.seq (.an [ag 9 1,⟨some 10,.bin (.int .lss) (.t 9) (.c (.int .i64 0)),none,[9]⟩])
 (.cond (.t 10)
 (.an [⟨some 11,.qB 9 (.c (.str [99,97,110,110,111,116,32,98,101,32,110,101,103,97,116,105,118,101])),none,[]⟩,⟨none,.bad,none,[11]⟩])
 (.skip)))
 (.seq (.an [ag 13 0,ea 14 13,⟨some 15,.hT (.int .u64) (.t 14),none,[14]⟩,ag 16 1,⟨some 17,.hT (.int .u64) (.t 16),none,[16]⟩,⟨some 18,.call 64 [(.t 15),(.t 17)],none,[15,17]⟩,ag 12 18,ra 19 12,rb 20 12,ag 5 19,ag 6 20])
 (.seq (.seq (.an [ag 21 5,⟨some 22,.bin (.int .gtr) (.t 21) (.c (.int .u64 0)),none,[21]⟩,ag 23 22,ho 24 6 23,⟨some 25,.bin (.int .gtr) (.t 24) (.c (.int .u64 9223372036854775807)),(some (23,false)),[24,23]⟩,eV 26 23 25])
 (.cond (.t 26)
 (.an [⟨some 27,.qB 9 (.c (.str [116,104,101,32,114,101,115,117,108,116,32,111,102,32,40,108,101,110,40,120,41,32,42,32,99,111,117,110,116,41,32,111,118,101,114,102,108,111,119,115])),none,[]⟩,⟨none,.bad,none,[27]⟩])
 (.skip)))
 (.seq (.an [ag 28 6,⟨some 29,.hT (.int .i64) (.t 28),none,[28]⟩,⟨some 30,.wq 1 [(.int .i64 0)] (.t 29) (.t 29),none,[29,29]⟩,ag 7 30])
 (.seq (.an [ag 31 7,ag 32 0,⟨some 33,.copy 1 (.t 31) (.t 32),none,[31,32]⟩,ag 8 33])
 (.seq (.block 0 (.loop Lt))
 (.seq (.an [ag 47 7,ag 4 47])
 (.ret))))))))
theorem Wt:b9 Tryz.prog Tryz.f47.ntmps (Tryz.f47.body.getD .skip)=Fa:=by kernel_rfl
theorem Wu:cC Tryz.prog Tryz.f47.ntmps Tryz.f47.results.toList=[.t 4]:=by kernel_rfl
theorem Ws {args:List V} {h:af} {K:V→af→Prop} (ak:Nat.ble args.length 48=true) (H:b8 Tryz.prog Fa (aT.bh args) h fun e r ab=>e.ends∧∃ad,cv r ab [.t 4]=some ad∧K (oneOf ad) ab):bB Tryz.prog 47 args h K:=
 cY follows cP Tryz.func47 (c:=Tryz.f47.body.getD .skip) (by kernel_rfl) (by kernel_rfl) (by kernel_rfl) ak Wt Wu (by kernel_rfl) H
def Fb:bC:=
 .seq (.an [fI 2 0,dq 4])
 (.seq (.seq (.an [ag 5 1])
 (.block 0 (.seq (.an [⟨some 7,.bin (.int .eql) (.t 5) (.c (.int .i64 8)),none,[5]⟩,ag 6 7])
 (.cond (.t 6)
 (.seq (.an [eF 8 2,bE 9 8,re 10 9,ag 4 10])
 (.ret))
 (.seq (.an [⟨some 12,.bin (.int .eql) (.t 5) (.c (.int .i64 9)),none,[5]⟩,ag 11 12])
 (.cond (.t 11)
 (.seq (.an [eF 13 2,bE 14 13,Ac 15 14,ag 4 15])
 (.ret))
 (.skip)))))))
 (.seq (.an [eF 16 2,bE 17 16,⟨some 18,.call 36 [(.t 17)],none,[17]⟩,ag 19 1,uC 20 18 19,ag 4 20])
 (.ret)))
theorem Ww:b9 Tryz.prog Tryz.f48.ntmps (Tryz.f48.body.getD .skip)=Fb:=by kernel_rfl
theorem Wx:cC Tryz.prog Tryz.f48.ntmps Tryz.f48.results.toList=[.t 4]:=by kernel_rfl
theorem Wv {args:List V} {h:af} {K:V→af→Prop} (ak:Nat.ble args.length 21=true) (H:b8 Tryz.prog Fb (aT.bh args) h fun e r ab=>e.ends∧∃ad,cv r ab [.t 4]=some ad∧K (oneOf ad) ab):bB Tryz.prog 48 args h K:=
 cY follows cP Tryz.func48 (c:=Tryz.f48.body.getD .skip) (by kernel_rfl) (by kernel_rfl) (by kernel_rfl) ak Ww Wx (by kernel_rfl) H
def c49:bC:=
 .seq (.an [fI 1 0,dq 2])
 (.seq (.seq (.an [eF 3 1,bE 4 3])
 (.block 0 (.seq (.an [re 6 4,ag 5 6])
 (.cond (.t 5)
 (.seq (.an [iZ 7 1,bE 8 7,⟨some 9,.call 65 [(.c (.int .i64 5)),(.t 8)],none,[8]⟩,ag 2 9])
 (.ret))
 (.seq (.seq (.an [rh 11 4,ag 10 11])
 (.cond (.t 10)
 (.skip)
 (.seq (.an [DT 12 4,ag 10 12])
 (.cond (.t 10)
 (.skip)
 (.seq (.an [DX 13 4,ag 10 13])
 (.cond (.t 10)
 (.skip)
 (.seq (.an [uJ 14 4,ag 10 14])
 (.cond (.t 10)
 (.skip)
 (.an [Aa 15 4,ag 10 15])))))))))
 (.cond (.t 10)
 (.seq (.an [iZ 16 1,bE 17 16,⟨some 18,.call 65 [(.c (.int .i64 3)),(.t 17)],none,[17]⟩,ag 2 18])
 (.ret))
 (.seq (.seq (.an [⟨some 20,.bin (.int .eql) (.t 4) (.c (.int .i64 16)),none,[4]⟩,ag 19 20])
 (.cond (.t 19)
 (.skip)
 (.seq (.an [⟨some 21,.bin (.int .eql) (.t 4) (.c (.int .i64 25)),none,[4]⟩,ag 19 21])
 (.cond (.t 19)
 (.skip)
 (.seq (.an [z' 22 4,ag 19 22])
 (.cond (.t 19)
 (.skip)
 (.an [⟨some 23,.bin (.int .eql) (.t 4) (.c (.int .i64 51)),none,[4]⟩,ag 19 23])))))))
 (.cond (.t 19)
 (.seq (.an [iZ 24 1,bE 25 24,⟨some 26,.call 65 [(.c (.int .i64 4)),(.t 25)],none,[25]⟩,ag 2 26])
 (.ret))
 (.seq (.an [⟨some 28,.bin (.int .eql) (.t 4) (.c (.int .i64 21)),none,[4]⟩,ag 27 28])
 (.cond (.t 27)
 (.seq (.an [iZ 29 1,bE 30 29,jF 31 30,⟨some 32,.bin (.int .leq) (.t 31) (.c (.int .i64 4096)),none,[31]⟩,ag 2 32])
 (.ret))
 (.seq (.an [⟨some 34,.bin (.int .eql) (.t 4) (.c (.int .i64 38)),none,[4]⟩,ag 33 34])
 (.cond (.t 33)
 (.seq (.draw [iZ 35 1,bE 36 35,⟨some 37,.call 66 [],none,[]⟩,⟨some 38,.call 59 [(.t 36),(.t 37)],none,[36,37]⟩,ag 2 38] [(1,[2,3])])
 (.ret))
 (.skip)))))))))))))
 (.seq (.an [iZ 39 1,bE 40 39,DW 41 40,ag 2 41])
 (.ret)))
theorem Wz:b9 Tryz.prog Tryz.f49.ntmps (Tryz.f49.body.getD .skip)=c49:=by kernel_rfl
theorem WA:cC Tryz.prog Tryz.f49.ntmps Tryz.f49.results.toList=[.t 2]:=by kernel_rfl
theorem Wy {args:List V} {h:af} {K:V→af→Prop} (ak:Nat.ble args.length 42=true) (H:b8 Tryz.prog c49 (aT.bh args) h fun e r ab=>e.ends∧∃ad,cv r ab [.t 2]=some ad∧K (oneOf ad) ab):bB Tryz.prog 49 args h K:=
 cY follows cP Tryz.func49 (c:=Tryz.f49.body.getD .skip) (by kernel_rfl) (by kernel_rfl) (by kernel_rfl) ak Wz WA (by kernel_rfl) H
def Fc:bC:=
 .seq (.an [fI 1 0,dq 2])
 (.seq (.seq (.an [eF 3 1,bE 4 3])
 (.block 0 (.seq (.seq (.an [⟨some 6,.bin (.int .eql) (.t 4) (.c (.int .i64 12)),none,[4]⟩,ag 5 6])
 (.cond (.t 5)
 (.skip)
 (.an [⟨some 7,.bin (.int .eql) (.t 4) (.c (.int .i64 20)),none,[4]⟩,ag 5 7])))
 (.cond (.t 5)
 (.seq (.an [eb 8 1,bE 9 8,⟨some 10,.bin (.int .geq) (.t 9) (.c (.int .i64 (-1073741824))),none,[9]⟩,ag 11 10,oN 12 1 11,fx 13 12 11,⟨some 14,.bin (.int .leq) (.t 13) (.c (.int .i64 1073741823)),(some (11,true)),[13,11]⟩,c8 15 11 14,ag 2 15])
 (.ret))
 (.seq (.seq (.an [⟨some 17,.bin (.int .eql) (.t 4) (.c (.int .i64 14)),none,[4]⟩,ag 16 17])
 (.cond (.t 16)
 (.skip)
 (.an [⟨some 18,.bin (.int .eql) (.t 4) (.c (.int .i64 23)),none,[4]⟩,ag 16 18])))
 (.cond (.t 16)
 (.seq (.an [eb 19 1,bE 20 19,rf 21 20,ag 22 21,xf 23 1 22,iJ 24 23 22,⟨some 25,.bin (.int .eql) (.t 24) (.c (.int .i64 1)),(some (22,false)),[24,22]⟩,eV 26 22 25,ag 2 26])
 (.ret))
 (.seq (.an [Aa 28 4,ag 27 28])
 (.cond (.t 27)
 (.seq (.an [eb 29 1,bE 30 29,Ad 31 30,ag 32 31,oN 33 1 32,fx 34 33 32,⟨some 35,.bin (.int .leq) (.t 34) (.c (.int .i64 64)),(some (32,true)),[34,32]⟩,c8 36 32 35,ag 37 36,oN 38 1 37,fx 39 38 37,uG 40 1 37,fx 41 40 37,⟨some 42,.len .slice (.t 41),(some (37,true)),[41,37]⟩,⟨some 43,.bin (.int .lss) (.t 39) (.t 42),(some (37,true)),[39,42,37]⟩,c8 44 37 43,ag 2 44])
 (.ret))
 (.skip)))))))))
 (.seq (.an [eb 45 1,bE 46 45,rf 47 46,ag 2 47])
 (.ret)))
theorem WD:b9 Tryz.prog Tryz.f50.ntmps (Tryz.f50.body.getD .skip)=Fc:=by kernel_rfl
theorem WE:cC Tryz.prog Tryz.f50.ntmps Tryz.f50.results.toList=[.t 2]:=by kernel_rfl
theorem WC {args:List V} {h:af} {K:V→af→Prop} (ak:Nat.ble args.length 48=true) (H:b8 Tryz.prog Fc (aT.bh args) h fun e r ab=>e.ends∧∃ad,cv r ab [.t 2]=some ad∧K (oneOf ad) ab):bB Tryz.prog 50 args h K:=
 cY follows cP Tryz.func50 (c:=Tryz.f50.body.getD .skip) (by kernel_rfl) (by kernel_rfl) (by kernel_rfl) ak WD WE (by kernel_rfl) H
def c51:bC:=
 .seq (.an [fI 1 0,fm 2,dq 3])
 (.seq (.an [fh 5 1,bE 6 5,ea 7 6,ag 4 7])
 (.seq (.seq (.an [eF 8 1,bE 9 8])
 (.block 0 (.seq (.an [rh 11 9,ag 10 11])
 (.cond (.t 10)
 (.seq (.an [ag 12 4,⟨some 13,.call 67 [(.c (.int .i64 1)),(.t 12)],none,[12]⟩,ag 14 4,⟨some 15,.bin (.int .leq) (.t 14) (.c (.int .i64 64)),none,[14]⟩,ag 2 13,ag 3 15])
 (.ret))
 (.seq (.seq (.an [uL 17 9,ag 16 17])
 (.cond (.t 16)
 (.skip)
 (.an [DV 18 9,ag 16 18])))
 (.cond (.t 16)
 (.seq (.an [⟨some 19,.call 67 [(.c (.int .i64 1)),(.c (.int .i64 2))],none,[]⟩,ag 20 4,rh 21 20,ag 2 19,ag 3 21])
 (.ret))
 (.seq (.an [⟨some 23,.bin (.int .eql) (.t 9) (.c (.int .i64 15)),none,[9]⟩,ag 22 23])
 (.cond (.t 22)
 (.seq (.an [⟨some 24,.call 67 [(.c (.int .i64 2)),(.c (.int .i64 2))],none,[]⟩,ag 25 4,rh 26 25,ag 2 24,ag 3 26])
 (.ret))
 (.seq (.an [⟨some 28,.bin (.int .eql) (.t 9) (.c (.int .i64 16)),none,[9]⟩,ag 27 28])
 (.cond (.t 27)
 (.seq (.an [ag 29 4,⟨some 30,.call 67 [(.c (.int .i64 2)),(.t 29)],none,[29]⟩,ag 31 4,DY 32 31,ag 2 30,ag 3 32])
 (.ret))
 (.seq (.an [⟨some 34,.bin (.int .eql) (.t 9) (.c (.int .i64 25)),none,[9]⟩,ag 33 34])
 (.cond (.t 33)
 (.seq (.an [ag 35 4,⟨some 36,.call 67 [(.c (.int .i64 3)),(.t 35)],none,[35]⟩,ag 37 4,DY 38 37,ag 2 36,ag 3 38])
 (.ret))
 (.seq (.seq (.an [⟨some 40,.bin (.int .eql) (.t 9) (.c (.int .i64 26)),none,[9]⟩,ag 39 40])
 (.cond (.t 39)
 (.skip)
 (.seq (.an [⟨some 41,.bin (.int .eql) (.t 9) (.c (.int .i64 28)),none,[9]⟩,ag 39 41])
 (.cond (.t 39)
 (.skip)
 (.seq (.an [⟨some 42,.bin (.int .eql) (.t 9) (.c (.int .i64 35)),none,[9]⟩,ag 39 42])
 (.cond (.t 39)
 (.skip)
 (.seq (.an [⟨some 43,.bin (.int .eql) (.t 9) (.c (.int .i64 37)),none,[9]⟩,ag 39 43])
 (.cond (.t 39)
 (.skip)
 (.an [⟨some 44,.bin (.int .eql) (.t 9) (.c (.int .i64 38)),none,[9]⟩,ag 39 44])))))))))
 (.cond (.t 39)
 (.seq (.an [⟨some 45,.call 67 [(.c (.int .i64 3)),(.c (.int .i64 2))],none,[]⟩,ag 46 4,rh 47 46,ag 2 45,ag 3 47])
 (.ret))
 (.seq (.seq (.an [⟨some 49,.bin (.int .eql) (.t 9) (.c (.int .i64 34)),none,[9]⟩,ag 48 49])
 (.cond (.t 48)
 (.skip)
 (.seq (.an [⟨some 50,.bin (.int .eql) (.t 9) (.c (.int .i64 36)),none,[9]⟩,ag 48 50])
 (.cond (.t 48)
 (.skip)
 (.an [⟨some 51,.bin (.int .eql) (.t 9) (.c (.int .i64 39)),none,[9]⟩,ag 48 51])))))
 (.cond (.t 48)
 (.seq (.an [⟨some 52,.call 67 [(.c (.int .i64 3)),(.c (.int .i64 1))],none,[]⟩,ag 53 4,re 54 53,ag 2 52,ag 3 54])
 (.ret))
 (.seq (.an [⟨some 56,.bin (.int .eql) (.t 9) (.c (.int .i64 31)),none,[9]⟩,ag 55 56])
 (.cond (.t 55)
 (.seq (.an [⟨some 57,.call 67 [(.c (.int .i64 3)),(.c (.int .i64 3))],none,[]⟩,ag 58 4,uL 59 58,ag 2 57,ag 3 59])
 (.ret))
 (.seq (.seq (.an [Ac 61 9,ag 60 61])
 (.cond (.t 60)
 (.skip)
 (.seq (.an [xh 62 9,ag 60 62])
 (.cond (.t 60)
 (.skip)
 (.an [⟨some 63,.bin (.int .eql) (.t 9) (.c (.int .i64 52)),none,[9]⟩,ag 60 63])))))
 (.cond (.t 60)
 (.seq (.an [⟨some 64,.hc 2 1 [(.int .i64 0)] [(0,1,(.c (.int .i64 2))),(1,1,(.c (.int .i64 3)))],none,[]⟩,ag 65 4,rh 66 65,ag 2 64,ag 3 66])
 (.ret))
 (.seq (.an [DZ 68 9,ag 67 68])
 (.cond (.t 67)
 (.seq (.an [⟨some 69,.hc 3 1 [(.int .i64 0)] [(0,1,(.c (.int .i64 2))),(1,1,(.c (.int .i64 3))),(2,1,(.c (.int .i64 3)))],none,[]⟩,ag 70 4,uL 71 70,ag 2 69,ag 3 71])
 (.ret))
 (.seq (.an [D0 73 9,ag 72 73])
 (.cond (.t 72)
 (.seq (.an [ag 74 4,z6 75 74,⟨some 76,.call 67 [(.c (.int .i64 5)),(.t 75)],none,[75]⟩,⟨some 77,.hc 1 1 [(.int .i64 0)] [(0,1,(.c (.int .i64 3)))],none,[]⟩,j6 78 76 77,ag 79 4,⟨some 80,.bin (.int .geq) (.t 79) (.c (.int .i64 2)),none,[79]⟩,ag 2 78,ag 3 80])
 (.ret))
 (.seq (.seq (.an [⟨some 82,.bin (.int .eql) (.t 9) (.c (.int .i64 32)),none,[9]⟩,ag 81 82])
 (.cond (.t 81)
 (.skip)
 (.an [⟨some 83,.bin (.int .eql) (.t 9) (.c (.int .i64 33)),none,[9]⟩,ag 81 83])))
 (.cond (.t 81)
 (.seq (.an [⟨some 84,.hc 1 1 [(.int .i64 0)] [(0,1,(.c (.int .i64 3)))],none,[]⟩,ag 85 4,z6 86 85,⟨some 87,.call 67 [(.c (.int .i64 4)),(.t 86)],none,[86]⟩,j6 88 84 87,ag 89 4,⟨some 90,.bin (.int .geq) (.t 89) (.c (.int .i64 2)),none,[89]⟩,ag 2 88,ag 3 90])
 (.ret))
 (.seq (.an [uJ 92 9,ag 91 92])
 (.cond (.t 91)
 (.seq (.draw [ag 94 4,re 95 94,⟨some 93,.call 67 [(.c (.int .i64 3)),(.c (.int .i64 1))],none,[]⟩,ag 96 95,uG 97 1 96,fx 98 97 96,uD 99 98 96,xi 100 99 96,fx 101 100 96,⟨some 102,.bin (.int .eql) (.t 101) (.c (.int .i64 27)),(some (96,true)),[101,96]⟩,c8 103 96 102,ag 2 93,ag 3 103] [(5,[13]),(8,[13])])
 (.ret))
 (.seq (.seq (.an [z' 105 9,ag 104 105])
 (.cond (.t 104)
 (.skip)
 (.an [⟨some 106,.bin (.int .eql) (.t 9) (.c (.int .i64 51)),none,[9]⟩,ag 104 106])))
 (.cond (.t 104)
 (.seq (.an [ag 107 4,⟨some 108,.call 67 [(.c (.int .i64 1)),(.t 107)],none,[107]⟩,ag 109 4,DY 110 109,ag 2 108,ag 3 110])
 (.ret))
 (.seq (.an [Aa 112 9,ag 111 112])
 (.cond (.t 111)
 (.seq (.draw [eb 113 1,bE 114 113,ag 116 4,eb 117 1,bE 118 117,uI 119 116 118,⟨some 115,.call 67 [(.c (.int .i64 8)),(.t 114)],none,[114]⟩,⟨some 120,.call 67 [(.c (.int .i64 6)),(.t 119)],none,[119]⟩,j6 121 115 120,ag 2 121,pM 3] [(1,[6]),(4,[6,7])])
 (.ret))
 (.seq (.an [D1 123 9,ag 122 123])
 (.cond (.t 122)
 (.seq (.an [ag 124 4,⟨some 125,.call 67 [(.c (.int .i64 5)),(.t 124)],none,[124]⟩,ag 126 4,DU 127 126,ag 2 125,ag 3 127])
 (.ret))
 (.skip)))))))))))))))))))))))))))))))))))
 (.seq (.an [ag 128 4,rf 129 128,fm 2,ag 3 129])
 (.ret))))
theorem WH:b9 Tryz.prog Tryz.f51.ntmps (Tryz.f51.body.getD .skip)=c51:=by kernel_rfl
theorem WI:cC Tryz.prog Tryz.f51.ntmps Tryz.f51.results.toList=[.t 2,.t 3]:=by kernel_rfl
theorem WG {args:List V} {h:af} {K:V→af→Prop} (ak:Nat.ble args.length 130=true) (H:b8 Tryz.prog c51 (aT.bh args) h fun e r ab=>e.ends∧∃ad,cv r ab [.t 2,.t 3]=some ad∧K (oneOf ad) ab):bB Tryz.prog 51 args h K:=
 cY follows cP Tryz.func51 (c:=Tryz.f51.body.getD .skip) (by kernel_rfl) (by kernel_rfl) (by kernel_rfl) ak WH WI (by kernel_rfl) H
def Fe:bC:=
 .seq (.an [fI 2 0])
 (.seq (.an [⟨some 3,.new [.js],none,[]⟩])
 (.seq (.an [⟨some 4,.fn 53 [(.t 2),(.t 3)],none,[2,3]⟩,⟨none,.st 1 (.t 3) (.t 4),none,[3,4]⟩])
 (.an [bE 5 3,dm 6 1,Ae 7 5 6])))
theorem WK:b9 Tryz.prog Tryz.f52.ntmps (Tryz.f52.body.getD .skip)=Fe:=by kernel_rfl
theorem WL:cC Tryz.prog Tryz.f52.ntmps Tryz.f52.results.toList=[]:=by kernel_rfl
theorem WJ {args:List V} {h:af} {K:V→af→Prop} (ak:Nat.ble args.length 8=true) (H:b8 Tryz.prog Fe (aT.bh args) h fun e r ab=>e.ends∧∃ad,cv r ab []=some ad∧K (oneOf ad) ab):bB Tryz.prog 52 args h K:=
 cY follows cP Tryz.func52 (c:=Tryz.f52.body.getD .skip) (by kernel_rfl) (by kernel_rfl) (by kernel_rfl) ak WK WL (by kernel_rfl) H
def Lu:bC:=
 .seq (.an [fg 15 14 13])
 (.seq (.cond (.t 15)
 (.skip)
 (.exit 0))
 (.seq (.block 1 (.seq (.an [gP 16 12 14,dm 17 16,kD 6,⟨none,.st 5 (.t 6) (.t 17),none,[6,17]⟩])
 (.seq (.an [bE 18 2,dm 19 6,Ae 20 18 19,mM 21 20])
 (.cond (.t 21)
 (.seq (.an [dq 4])
 (.ret))
 (.skip)))))
 (.an [eN 22 14,ag 14 22])))
def sP:bC:=
 .seq (.an [fI 3 0,dq 4])
 (.seq (.seq (.an [bE 7 1,dm 8 3,Ae 9 7 8,mM 10 9])
 (.cond (.t 10)
 (.seq (.an [dq 4])
 (.ret))
 (.skip)))
 (.seq (.seq (.an [fh 11 3,bE 12 11,ea 13 12,eO 14])
 (.block 0 (.loop Lu)))
 (.seq (.an [pM 4])
 (.ret))))
theorem WN:b9 Tryz.prog Tryz.f53.ntmps (Tryz.f53.body.getD .skip)=sP:=by kernel_rfl
theorem WO:cC Tryz.prog Tryz.f53.ntmps Tryz.f53.results.toList=[.t 4]:=by kernel_rfl
theorem WM {args:List V} {h:af} {K:V→af→Prop} (ak:Nat.ble args.length 23=true) (H:b8 Tryz.prog sP (aT.bh args) h fun e r ab=>e.ends∧∃ad,cv r ab [.t 4]=some ad∧K (oneOf ad) ab):bB Tryz.prog 53 args h K:=
 cY follows cP Tryz.func53 (c:=Tryz.f53.body.getD .skip) (by kernel_rfl) (by kernel_rfl) (by kernel_rfl) ak WN WO (by kernel_rfl) H
def Fh:bC:=
 .seq (.seq (.an [ag 6 5,ag 7 1,ea 8 7,fg 9 6 8])
 (.cond (.t 9)
 (.skip)
 (.exit 0)))
 (.seq (.block 1 (.seq (.an [ag 12 1,ag 13 5,ll 14 12 13,bE 15 14,ag 16 0,Af 17 15 16])
 (.cond (.t 17)
 (.seq (.an [pM 4])
 (.ret))
 (.skip))))
 (.an [ag 10 5,eN 11 10,ag 5 11]))
def AX:bC:=
 .seq (.an [dq 4])
 (.seq (.seq (.an [eO 5])
 (.block 0 (.loop Fh)))
 (.seq (.an [dq 4])
 (.ret)))
theorem WW:b9 Tryz.prog Tryz.f59.ntmps (Tryz.f59.body.getD .skip)=AX:=by kernel_rfl
theorem WX:cC Tryz.prog Tryz.f59.ntmps Tryz.f59.results.toList=[.t 4]:=by kernel_rfl
theorem Lx {args:List V} {h:af} {K:V→af→Prop} (ak:Nat.ble args.length 18=true) (H:b8 Tryz.prog AX (aT.bh args) h fun e r ab=>e.ends∧∃ad,cv r ab [.t 4]=some ad∧K (oneOf ad) ab):bB Tryz.prog 59 args h K:=
 cY follows cP Tryz.func59 (c:=Tryz.f59.body.getD .skip) (by kernel_rfl) (by kernel_rfl) (by kernel_rfl) ak WW WX (by kernel_rfl) H
def Fk:bC:=
 .seq (.an [dq 4])
 (.seq (.seq (.an [ag 7 1,jF 8 7,⟨some 9,.bin (.int .gtr) (.t 8) (.c (.int .i64 64)),none,[8]⟩,ag 10 9,ho 11 1 10,⟨some 12,.bin (.str .eql) (.t 11) (.c (.str [])),(some (10,false)),[11,10]⟩,eV 13 10 12])
 (.cond (.t 13)
 (.seq (.an [dq 4])
 (.ret))
 (.skip)))
 (.seq (.seq (.an [ag 14 0,Ab 15 14])
 (.cond (.t 15)
 (.an [ag 16 1,⟨some 17,.bin (.str .add) (.c (.str [39])) (.t 16),none,[16]⟩,ag 1 17])
 (.skip)))
 (.seq (.an [ag 19 1,⟨some 20,.call 72 [(.t 19)],none,[19]⟩,ag 18 20,ra 21 18,rb 22 18,⟨some 6,.new [(.int .i64 0),(.int .i64 0)],none,[]⟩,ag 5 21,⟨none,.st 2 (.t 6) (.t 22),none,[6,22]⟩])
 (.seq (.an [eF 23 6,bE 24 23,rf 25 24,ag 26 25,c0 27 5 26,⟨some 28,.len .slice (.t 27),(some (26,true)),[27,26]⟩,⟨some 29,.bin (.int .eql) (.t 28) (.c (.int .i64 1)),(some (26,true)),[28,26]⟩,c8 30 26 29,ag 31 30,c0 32 5 31,Ag 33 32 31,xi 34 33 31,fx 35 34 31,c0 36 0 31,uE 37 35 36 31,c8 38 31 37,ag 39 38,c0 40 5 39,Ag 41 40 39,⟨some 42,.fR 2 (.t 41),(some (39,true)),[41,39]⟩,fx 43 42 39,⟨some 44,.bin (.int .eql) (.t 43) (.c (.int .i64 0)),(some (39,true)),[43,39]⟩,c8 45 39 44,ag 46 45,c0 47 5 46,Ag 48 47 46,uF 49 48 46,fx 50 49 46,⟨some 51,.len .str (.t 50),(some (46,true)),[50,46]⟩,⟨some 52,.bin (.int .gtr) (.t 51) (.c (.int .i64 0)),(some (46,true)),[51,46]⟩,c8 53 46 52,ag 54 53,c0 55 5 54,Ag 56 55 54,⟨some 57,.iQ 4 (.t 56),(some (54,true)),[56,54]⟩,c0 58 1 54,⟨some 59,.call 73 [(.t 57),(.t 58)],(some (54,true)),[57,58,54]⟩,c8 60 54 59,ag 4 60])
 (.ret)))))
theorem W8:b9 Tryz.prog Tryz.f62.ntmps (Tryz.f62.body.getD .skip)=Fk:=by kernel_rfl
theorem W9:cC Tryz.prog Tryz.f62.ntmps Tryz.f62.results.toList=[.t 4]:=by kernel_rfl
theorem W7 {args:List V} {h:af} {K:V→af→Prop} (ak:Nat.ble args.length 61=true) (H:b8 Tryz.prog Fk (aT.bh args) h fun e r ab=>e.ends∧∃ad,cv r ab [.t 4]=some ad∧K (oneOf ad) ab):bB Tryz.prog 62 args h K:=
 cY follows cP Tryz.func62 (c:=Tryz.f62.body.getD .skip) (by kernel_rfl) (by kernel_rfl) (by kernel_rfl) ak W8 W9 (by kernel_rfl) H
def Fl:bC:=
 .seq (.an [dq 4])
 (.seq (.an [ag 5 0,ag 6 1,⟨some 7,.call 74 [(.t 5),(.t 6)],none,[5,6]⟩,Ad 8 7,ag 4 8])
 (.ret))
theorem W_:b9 Tryz.prog Tryz.f63.ntmps (Tryz.f63.body.getD .skip)=Fl:=by kernel_rfl
theorem Xa:cC Tryz.prog Tryz.f63.ntmps Tryz.f63.results.toList=[.t 4]:=by kernel_rfl
theorem W' {args:List V} {h:af} {K:V→af→Prop} (ak:Nat.ble args.length 9=true) (H:b8 Tryz.prog Fl (aT.bh args) h fun e r ab=>e.ends∧∃ad,cv r ab [.t 4]=some ad∧K (oneOf ad) ab):bB Tryz.prog 63 args h K:=
 cY follows cP Tryz.func63 (c:=Tryz.f63.body.getD .skip) (by kernel_rfl) (by kernel_rfl) (by kernel_rfl) ak W_ Xa (by kernel_rfl) H
def Lz:bC:=
 .seq (.seq (.an [ag 13 5,ag 14 1,jF 15 14,fg 16 13 15])
 (.cond (.t 16)
 (.skip)
 (.exit 0)))
 (.seq (.block 1 (.seq (.an [ag 19 1,ag 20 5,Ah 21 19 20,⟨some 22,.call 77 [(.t 21)],none,[21]⟩,mM 23 22])
 (.cond (.t 23)
 (.seq (.an [dq 4])
 (.ret))
 (.skip))))
 (.an [ag 17 5,eN 18 17,ag 5 18]))
def Fm:bC:=
 .seq (.an [dq 4])
 (.seq (.seq (.an [ag 6 1,DW 7 6,ag 8 7,ho 9 1 8,⟨some 10,.len .str (.t 9),(some (8,false)),[9,8]⟩,⟨some 11,.bin (.int .gtr) (.t 10) (.c (.int .i64 64)),(some (8,false)),[10,8]⟩,eV 12 8 11])
 (.cond (.t 12)
 (.seq (.an [dq 4])
 (.ret))
 (.skip)))
 (.seq (.seq (.an [eO 5])
 (.block 0 (.loop Lz)))
 (.seq (.seq (.an [ag 24 0])
 (.block 2 (.seq (.an [DV 26 24,ag 25 26])
 (.cond (.t 25)
 (.seq (.an [ag 27 1,Ai 28 27,⟨some 29,.call 78 [(.t 28),(.c (.int .u8 65)),(.c (.int .u8 90))],none,[28]⟩,ag 4 29])
 (.ret))
 (.seq (.an [Ab 31 24,ag 30 31])
 (.cond (.t 30)
 (.seq (.an [ag 32 1,Ai 33 32,D2 34 33,ag 4 34])
 (.ret))
 (.skip)))))))
 (.seq (.an [ag 35 1,Ai 36 35,D2 37 36,ag 38 37,ho 39 1 38,⟨some 40,.k4 (.t 39) (.c (.int .i64 0)),(some (38,false)),[39,38]⟩,Aj 41 40 38,eV 42 38 41,ag 43 42,c0 44 1 43,⟨some 45,.bin (.str .neq) (.t 44) (.c (.str [95])),(some (43,true)),[44,43]⟩,c8 46 43 45,ag 47 46,c0 48 1 47,⟨some 49,.call 79 [],(some (47,true)),[47]⟩,⟨some 50,.call 59 [(.t 48),(.t 49)],(some (47,true)),[48,49,47]⟩,⟨some 51,.un .not (.t 50),(some (47,true)),[50,47]⟩,c8 52 47 51,ag 4 52])
 (.ret)))))
theorem Xc:b9 Tryz.prog Tryz.f65.ntmps (Tryz.f65.body.getD .skip)=Fm:=by kernel_rfl
theorem Xd:cC Tryz.prog Tryz.f65.ntmps Tryz.f65.results.toList=[.t 4]:=by kernel_rfl
theorem Xb {args:List V} {h:af} {K:V→af→Prop} (ak:Nat.ble args.length 53=true) (H:b8 Tryz.prog Fm (aT.bh args) h fun e r ab=>e.ends∧∃ad,cv r ab [.t 4]=some ad∧K (oneOf ad) ab):bB Tryz.prog 65 args h K:=
 cY follows cP Tryz.func65 (c:=Tryz.f65.body.getD .skip) (by kernel_rfl) (by kernel_rfl) (by kernel_rfl) ak Xc Xd (by kernel_rfl) H
def Fo:bC:=
 .seq (.an [fm 0])
 (.seq (.an [Kr 1,ag 0 1])
 (.ret))
theorem Xf:b9 Tryz.prog Tryz.f66.ntmps (Tryz.f66.body.getD .skip)=Fo:=by kernel_rfl
theorem Xg:cC Tryz.prog Tryz.f66.ntmps Tryz.f66.results.toList=[.t 0]:=by kernel_rfl
theorem Xe {args:List V} {h:af} {K:V→af→Prop} (ak:Nat.ble args.length 2=true) (H:b8 Tryz.prog Fo (aT.bh args) h fun e r ab=>e.ends∧∃ad,cv r ab [.t 0]=some ad∧K (oneOf ad) ab):bB Tryz.prog 66 args h K:=
 cY follows cP Tryz.func66 (c:=Tryz.f66.body.getD .skip) (by kernel_rfl) (by kernel_rfl) (by kernel_rfl) ak Xf Xg (by kernel_rfl) H
def LA:bC:=
 .seq (.seq (.an [ag 7 6,ag 8 1,fg 9 7 8])
 (.cond (.t 9)
 (.skip)
 (.exit 0)))
 (.seq (.block 1 (.an [ag 12 5,ag 13 0,⟨some 14,.hc 1 1 [(.int .i64 0)] [(0,1,(.t 13))],none,[13]⟩,j6 15 12 14,ag 5 15]))
 (.an [ag 10 6,eN 11 10,ag 6 11]))
def Fp:bC:=
 .seq (.an [fm 4])
 (.seq (.an [fm 5])
 (.seq (.seq (.an [eO 6])
 (.block 0 (.loop LA)))
 (.seq (.an [ag 16 5,ag 4 16])
 (.ret))))
theorem Xi:b9 Tryz.prog Tryz.f67.ntmps (Tryz.f67.body.getD .skip)=Fp:=by kernel_rfl
theorem Xj:cC Tryz.prog Tryz.f67.ntmps Tryz.f67.results.toList=[.t 4]:=by kernel_rfl
theorem Xh {args:List V} {h:af} {K:V→af→Prop} (ak:Nat.ble args.length 17=true) (H:b8 Tryz.prog Fp (aT.bh args) h fun e r ab=>e.ends∧∃ad,cv r ab [.t 4]=some ad∧K (oneOf ad) ab):bB Tryz.prog 67 args h K:=
 cY follows cP Tryz.func67 (c:=Tryz.f67.body.getD .skip) (by kernel_rfl) (by kernel_rfl) (by kernel_rfl) ak Xi Xj (by kernel_rfl) H
def Fu:bC:=
 .seq (.an [fI 2 0,dq 4])
 (.seq (.seq (.an [eF 5 2,bE 6 5,Ab 7 6])
 (.cond (.t 7)
 (.seq (.an [ag 8 1,iZ 9 2,bE 10 9,⟨some 11,.bin (.str .add) (.c (.str [39])) (.t 10),none,[10]⟩,Af 12 8 11,ag 4 12])
 (.ret))
 (.skip)))
 (.seq (.an [ag 13 1,iZ 14 2,bE 15 14,Af 16 13 15,ag 4 16])
 (.ret)))
theorem Xr:b9 Tryz.prog Tryz.f73.ntmps (Tryz.f73.body.getD .skip)=Fu:=by kernel_rfl
theorem Xs:cC Tryz.prog Tryz.f73.ntmps Tryz.f73.results.toList=[.t 4]:=by kernel_rfl
theorem Xq {args:List V} {h:af} {K:V→af→Prop} (ak:Nat.ble args.length 17=true) (H:b8 Tryz.prog Fu (aT.bh args) h fun e r ab=>e.ends∧∃ad,cv r ab [.t 4]=some ad∧K (oneOf ad) ab):bB Tryz.prog 73 args h K:=
 cY follows cP Tryz.func73 (c:=Tryz.f73.body.getD .skip) (by kernel_rfl) (by kernel_rfl) (by kernel_rfl) ak Xr Xs (by kernel_rfl) H
def LD:bC:=
 .seq (.an [fg 9 8 7])
 (.seq (.cond (.t 9)
 (.skip)
 (.exit 0))
 (.seq (.block 1 (.seq (.an [ag 10 8,ag 5 10])
 (.seq (.an [ag 11 1,ag 12 0,ag 13 5,ll 14 12 13,bE 15 14,Af 16 11 15])
 (.cond (.t 16)
 (.seq (.an [ag 17 5,ag 4 17])
 (.ret))
 (.skip)))))
 (.an [eN 18 8,ag 8 18])))
def Fv:bC:=
 .seq (.an [eO 4])
 (.seq (.seq (.an [ag 6 0,ea 7 6,eO 8])
 (.block 0 (.loop LD)))
 (.seq (.an [⟨some 4,.dz (.c (.int .i64 (-1))),none,[]⟩])
 (.ret)))
theorem Xu:b9 Tryz.prog Tryz.f74.ntmps (Tryz.f74.body.getD .skip)=Fv:=by kernel_rfl
theorem Xv:cC Tryz.prog Tryz.f74.ntmps Tryz.f74.results.toList=[.t 4]:=by kernel_rfl
theorem Xt {args:List V} {h:af} {K:V→af→Prop} (ak:Nat.ble args.length 19=true) (H:b8 Tryz.prog Fv (aT.bh args) h fun e r ab=>e.ends∧∃ad,cv r ab [.t 4]=some ad∧K (oneOf ad) ab):bB Tryz.prog 74 args h K:=
 cY follows cP Tryz.func74 (c:=Tryz.f74.body.getD .skip) (by kernel_rfl) (by kernel_rfl) (by kernel_rfl) ak Xu Xv (by kernel_rfl) H
def Fw:bC:=
 .seq (.an [dq 2])
 (.seq (.an [ag 3 0,D2 4 3,ag 5 4,ho 6 0 5,⟨some 7,.call 78 [(.t 6),(.c (.int .u8 65)),(.c (.int .u8 90))],(some (5,false)),[6,5]⟩,eV 8 5 7,ag 9 8,ho 10 0 9,⟨some 11,.call 78 [(.t 10),(.c (.int .u8 48)),(.c (.int .u8 57))],(some (9,false)),[10,9]⟩,eV 12 9 11,ag 13 12,ho 14 0 13,Aj 15 14 13,eV 16 13 15,ag 17 16,ho 18 0 17,⟨some 19,.bin (.int .eql) (.t 18) (.c (.int .u8 39)),(some (17,false)),[18,17]⟩,eV 20 17 19,ag 2 20])
 (.ret))
theorem Xx:b9 Tryz.prog Tryz.f77.ntmps (Tryz.f77.body.getD .skip)=Fw:=by kernel_rfl
theorem Xy:cC Tryz.prog Tryz.f77.ntmps Tryz.f77.results.toList=[.t 2]:=by kernel_rfl
theorem Xw {args:List V} {h:af} {K:V→af→Prop} (ak:Nat.ble args.length 21=true) (H:b8 Tryz.prog Fw (aT.bh args) h fun e r ab=>e.ends∧∃ad,cv r ab [.t 2]=some ad∧K (oneOf ad) ab):bB Tryz.prog 77 args h K:=
 cY follows cP Tryz.func77 (c:=Tryz.f77.body.getD .skip) (by kernel_rfl) (by kernel_rfl) (by kernel_rfl) ak Xx Xy (by kernel_rfl) H
def Fx:bC:=
 .seq (.an [dq 6])
 (.seq (.an [ag 7 0,ag 8 1,uK 9 7 8,ag 10 9,c0 11 0 10,c0 12 2 10,⟨some 13,.bin (.int .leq) (.t 11) (.t 12),(some (10,true)),[11,12,10]⟩,c8 14 10 13,ag 6 14])
 (.ret))
theorem XA:b9 Tryz.prog Tryz.f78.ntmps (Tryz.f78.body.getD .skip)=Fx:=by kernel_rfl
theorem XB:cC Tryz.prog Tryz.f78.ntmps Tryz.f78.results.toList=[.t 6]:=by kernel_rfl
theorem Xz {args:List V} {h:af} {K:V→af→Prop} (ak:Nat.ble args.length 15=true) (H:b8 Tryz.prog Fx (aT.bh args) h fun e r ab=>e.ends∧∃ad,cv r ab [.t 6]=some ad∧K (oneOf ad) ab):bB Tryz.prog 78 args h K:=
 cY follows cP Tryz.func78 (c:=Tryz.f78.body.getD .skip) (by kernel_rfl) (by kernel_rfl) (by kernel_rfl) ak XA XB (by kernel_rfl) H
def Fy:bC:=
 .seq (.an [fm 0])
 (.seq (.an [⟨some 1,.hc 20 1 [(.str [])] [(0,1,(.c (.str [97,110,100]))),(1,1,(.c (.str [98,101,103,105,110]))),(2,1,(.c (.str [101,108,115,101]))),(3,1,(.c (.str [101,110,100]))),(4,1,(.c (.str [101,120,99,101,112,116,105,111,110]))),(5,1,(.c (.str [102,97,108,115,101]))),(6,1,(.c (.str [102,117,110]))),(7,1,(.c (.str [105,102]))),(8,1,(.c (.str [105,110]))),(9,1,(.c (.str [108,101,116]))),(10,1,(.c (.str [109,97,116,99,104]))),(11,1,(.c (.str [109,111,100]))),(12,1,(.c (.str [111,102]))),(13,1,(.c (.str [114,97,105,115,101]))),(14,1,(.c (.str [114,101,99]))),(15,1,(.c (.str [116,104,101,110]))),(16,1,(.c (.str [116,114,117,101]))),(17,1,(.c (.str [116,114,121]))),(18,1,(.c (.str [116,121,112,101]))),(19,1,(.c (.str [119,105,116,104])))],none,[]⟩,ag 0 1])
 (.ret))
theorem XD:b9 Tryz.prog Tryz.f79.ntmps (Tryz.f79.body.getD .skip)=Fy:=by kernel_rfl
theorem XE:cC Tryz.prog Tryz.f79.ntmps Tryz.f79.results.toList=[.t 0]:=by kernel_rfl
theorem XC {args:List V} {h:af} {K:V→af→Prop} (ak:Nat.ble args.length 2=true) (H:b8 Tryz.prog Fy (aT.bh args) h fun e r ab=>e.ends∧∃ad,cv r ab [.t 0]=some ad∧K (oneOf ad) ab):bB Tryz.prog 79 args h K:=
 cY follows cP Tryz.func79 (c:=Tryz.f79.body.getD .skip) (by kernel_rfl) (by kernel_rfl) (by kernel_rfl) ak XD XE (by kernel_rfl) H
def j9:bC:=
 .seq (.an [fI 1 0,fm 2])
 (.seq (.an [⟨some 6,.call 35 [],none,[]⟩,ag 3 6])
 (.seq (.seq (.an [eF 7 1,bE 8 7,⟨some 9,.call 36 [(.t 8)],none,[8]⟩,ag 4 9])
 (.block 0 (.seq (.seq (.an [ag 11 4,⟨some 12,.bin (.int .neq) (.t 11) (.c (.int .i64 3)),none,[11]⟩,ag 13 12,c0 14 4 13,⟨some 15,.bin (.int .neq) (.t 14) (.c (.int .i64 4)),(some (13,true)),[14,13]⟩,c8 16 13 15,ag 17 16,c0 18 4 17,⟨some 19,.bin (.int .neq) (.t 18) (.c (.int .i64 5)),(some (17,true)),[18,17]⟩,c8 20 17 19,ag 21 20,c0 22 4 21,⟨some 23,.bin (.int .neq) (.t 22) (.c (.int .i64 7)),(some (21,true)),[22,21]⟩,c8 24 21 23,ag 10 24])
 (.cond (.t 10)
 (.skip)
 (.an [ag 25 3,dm 26 1,⟨some 27,.call 37 [(.t 25),(.t 26)],none,[25,26]⟩,mM 28 27,ag 10 28])))
 (.cond (.t 10)
 (.seq (.an [fm 2])
 (.ret))
 (.skip)))))
 (.seq (.an [⟨some 29,.tQ none,none,[]⟩,ag 5 29])
 (.seq (.an [dm 30 1,⟨some 31,.tQ none,none,[]⟩,ag 32 5,⟨some 33,.call 42 [(.t 30),(.t 31),(.t 32)],none,[30,31,32]⟩])
 (.seq (.an [ag 34 5,⟨some 35,.call 44 [(.t 34)],none,[34]⟩,⟨some 36,.call 43 [(.t 35)],none,[35]⟩,ag 2 36])
 (.ret))))))
theorem VP:b9 Tryz.prog Tryz.f27.ntmps (Tryz.f27.body.getD .skip)=j9:=by kernel_rfl
theorem VQ:cC Tryz.prog Tryz.f27.ntmps Tryz.f27.results.toList=[.t 2]:=by kernel_rfl
theorem VO {args:List V} {h:af} {K:V→af→Prop} (ak:Nat.ble args.length 37=true) (H:b8 Tryz.prog j9 (aT.bh args) h fun e r ab=>e.ends∧∃ad,cv r ab [.t 2]=some ad∧K (oneOf ad) ab):bB Tryz.prog 27 args h K:=
 cY follows cP Tryz.func27 (c:=Tryz.f27.body.getD .skip) (by kernel_rfl) (by kernel_rfl) (by kernel_rfl) ak VP VQ (by kernel_rfl) H
def E1:bC:=
 .seq (.an [fI 1 0,fm 2])
 (.seq (.an [eF 4 1,bE 5 4,⟨some 6,.call 38 [(.t 5)],none,[5]⟩,ag 3 6])
 (.seq (.seq (.an [ag 7 3,⟨some 8,.bin (.int .neq) (.t 7) (.c (.int .i64 3)),none,[7]⟩,ag 9 8,c0 10 3 9,⟨some 11,.bin (.int .neq) (.t 10) (.c (.int .i64 4)),(some (9,true)),[10,9]⟩,c8 12 9 11,ag 13 12,c0 14 3 13,⟨some 15,.bin (.int .neq) (.t 14) (.c (.int .i64 5)),(some (13,true)),[14,13]⟩,c8 16 13 15,ag 17 16,c0 18 3 17,⟨some 19,.bin (.int .neq) (.t 18) (.c (.int .i64 7)),(some (17,true)),[18,17]⟩,c8 20 17 19,ag 21 20,kC 22 1 21,⟨some 23,.call 39 [(.t 22)],(some (21,false)),[22,21]⟩,sB 24 23 21,eV 25 21 24])
 (.cond (.t 25)
 (.seq (.an [fm 2])
 (.ret))
 (.skip)))
 (.seq (.an [dm 26 1,⟨some 27,.call 45 [(.t 26),(.c .bW),(.c .bW)],none,[26]⟩,ag 2 27])
 (.ret))))
theorem VS:b9 Tryz.prog Tryz.f28.ntmps (Tryz.f28.body.getD .skip)=E1:=by kernel_rfl
theorem VT:cC Tryz.prog Tryz.f28.ntmps Tryz.f28.results.toList=[.t 2]:=by kernel_rfl
theorem VR {args:List V} {h:af} {K:V→af→Prop} (ak:Nat.ble args.length 28=true) (H:b8 Tryz.prog E1 (aT.bh args) h fun e r ab=>e.ends∧∃ad,cv r ab [.t 2]=some ad∧K (oneOf ad) ab):bB Tryz.prog 28 args h K:=
 cY follows cP Tryz.func28 (c:=Tryz.f28.body.getD .skip) (by kernel_rfl) (by kernel_rfl) (by kernel_rfl) ak VS VT (by kernel_rfl) H
def AV:bC:=
 .seq (.an [fg 54 53 52])
 (.seq (.cond (.t 54)
 (.skip)
 (.exit 1))
 (.seq (.block 2 (.seq (.an [ag 55 53,gP 56 51 53,dm 57 56,kD 11,ag 10 55,⟨none,.st 5 (.t 11) (.t 57),none,[11,57]⟩])
 (.seq (.seq (.an [ag 58 10,ag 59 9,uC 60 58 59])
 (.cond (.t 60)
 (.an [ag 61 6,ag 62 8,⟨some 63,.ly (.t 61) [(.t 62),(.c (.int .i64 1))],none,[61,62]⟩])
 (.skip)))
 (.an [dm 64 11,bE 65 4,ag 66 2,⟨some 67,.call 42 [(.t 64),(.t 65),(.t 66)],none,[64,65,66]⟩]))))
 (.an [eN 68 53,ag 53 68])))
def E9:bC:=
 .seq (.an [fI 3 0,fI 4 1])
 (.seq (.an [⟨some 12,.fn 54 [(.t 4)],none,[4]⟩,ag 6 12])
 (.seq (.an [⟨some 7,.dz (.c (.func 55 [])),none,[]⟩])
 (.seq (.an [fm 8])
 (.seq (.an [fh 13 3,bE 14 13,ea 15 14,ag 9 15])
 (.seq (.seq (.an [eF 16 3,bE 17 16])
 (.block 0 (.seq (.an [DX 19 17,ag 18 19])
 (.cond (.t 18)
 (.seq (.an [bE 20 4,iZ 21 3,bE 22 21,⟨some 23,.look .str (.int .i64 0) false (.t 20) (.t 22),none,[20,22]⟩,rf 24 23])
 (.cond (.t 24)
 (.an [ag 25 2,iZ 26 3,bE 27 26,⟨none,.pG .str (.t 25) (.t 27) (.c (.bool true)),none,[25,27]⟩])
 (.skip)))
 (.seq (.seq (.an [Ac 29 17,ag 28 29])
 (.cond (.t 28)
 (.skip)
 (.an [xh 30 17,ag 28 30])))
 (.cond (.t 28)
 (.an [fh 31 3,bE 32 31,xe 33 32,dm 34 33,⟨some 35,.call 25 [(.t 34)],none,[34]⟩,ag 8 35,xd 9])
 (.seq (.an [DZ 37 17,ag 36 37])
 (.cond (.t 36)
 (.an [fh 38 3,bE 39 38,xe 40 39,dm 41 40,⟨some 42,.call 25 [(.t 41)],none,[41]⟩,ag 8 42,⟨some 9,.dz (.c (.int .i64 2)),none,[]⟩])
 (.seq (.seq (.an [D0 44 17,ag 43 44])
 (.cond (.t 43)
 (.skip)
 (.an [D1 45 17,ag 43 45])))
 (.cond (.t 43)
 (.an [ag 46 7,fh 47 3,bE 48 47,Ae 49 46 48,ag 8 49,eO 9])
 (.skip)))))))))))
 (.seq (.seq (.an [fh 50 3,bE 51 50,ea 52 51,eO 53])
 (.block 1 (.loop AV)))
 (.seq (.an [ag 69 9,fh 70 3,bE 71 70,ea 72 71,fg 73 69 72])
 (.cond (.t 73)
 (.an [ag 74 6,ag 75 8,⟨some 76,.ly (.t 74) [(.t 75),(.c (.int .i64 (-1)))],none,[74,75]⟩])
 (.skip)))))))))
theorem Wh:b9 Tryz.prog Tryz.f42.ntmps (Tryz.f42.body.getD .skip)=E9:=by kernel_rfl
theorem Wi:cC Tryz.prog Tryz.f42.ntmps Tryz.f42.results.toList=[]:=by kernel_rfl
theorem Wg {args:List V} {h:af} {K:V→af→Prop} (ak:Nat.ble args.length 77=true) (H:b8 Tryz.prog E9 (aT.bh args) h fun e r ab=>e.ends∧∃ad,cv r ab []=some ad∧K (oneOf ad) ab):bB Tryz.prog 42 args h K:=
 cY follows cP Tryz.func42 (c:=Tryz.f42.body.getD .skip) (by kernel_rfl) (by kernel_rfl) (by kernel_rfl) ak Wh Wi (by kernel_rfl) H
def Ls:bC:=
 .seq (.seq (.an [ag 23 7,fh 24 3,bE 25 24,ea 26 25,fg 27 23 26])
 (.cond (.t 27)
 (.skip)
 (.exit 0)))
 (.seq (.block 1 (.seq (.draw [⟨some 30,.hc 0 1 [(.str [])] [],none,[]⟩,ag 31 1,dm 33 3,ag 34 7,j6 32 30 31,⟨some 35,.call 61 [(.t 33),(.t 34)],none,[33,34]⟩,j6 36 32 35,ag 8 36] [(2,[4,5])])
 (.an [fh 37 3,bE 38 37,ag 39 7,gP 40 38 39,dm 41 40,ag 42 8,ag 43 2,⟨some 44,.call 45 [(.t 41),(.t 42),(.t 43)],none,[41,42,43]⟩,ag 2 44])))
 (.an [ag 28 7,eN 29 28,ag 7 29]))
def lv:bC:=
 .seq (.an [fI 3 0,fm 6])
 (.seq (.seq (.an [eF 9 3,bE 10 9,DX 11 10,ag 12 11,uF 13 3 12,fx 14 13 12,c0 15 1 12,⟨some 16,.call 59 [(.t 14),(.t 15)],(some (12,true)),[14,15,12]⟩,⟨some 17,.un .not (.t 16),(some (12,true)),[16,12]⟩,c8 18 12 17])
 (.cond (.t 18)
 (.seq (.an [ag 19 2,iZ 20 3,bE 21 20,⟨some 22,.call 60 [(.t 19),(.t 21)],none,[19,21]⟩,ag 6 22])
 (.ret))
 (.skip)))
 (.seq (.seq (.an [eO 7])
 (.block 0 (.loop Ls)))
 (.seq (.an [ag 45 2,ag 6 45])
 (.ret))))
theorem Wn:b9 Tryz.prog Tryz.f45.ntmps (Tryz.f45.body.getD .skip)=lv:=by kernel_rfl
theorem Wo:cC Tryz.prog Tryz.f45.ntmps Tryz.f45.results.toList=[.t 6]:=by kernel_rfl
theorem Wm {args:List V} {h:af} {K:V→af→Prop} (ak:Nat.ble args.length 46=true) (H:b8 Tryz.prog lv (aT.bh args) h fun e r ab=>e.ends∧∃ad,cv r ab [.t 6]=some ad∧K (oneOf ad) ab):bB Tryz.prog 45 args h K:=
 cY follows cP Tryz.func45 (c:=Tryz.f45.body.getD .skip) (by kernel_rfl) (by kernel_rfl) (by kernel_rfl) ak Wn Wo (by kernel_rfl) H
def Lv:bC:=
 .seq (.an [fg 10 9 8])
 (.seq (.cond (.t 10)
 (.skip)
 (.exit 0))
 (.seq (.block 1 (.seq (.an [ll 11 7 9,bE 12 11,ag 6 12])
 (.an [bE 13 2,ag 14 6,⟨some 15,.look .str (.int .i64 0) false (.t 13) (.t 14),none,[13,14]⟩,ag 16 1,uH 17 15 16,⟨none,.pG .str (.t 13) (.t 14) (.t 17),none,[13,14,17]⟩])))
 (.an [eN 18 9,ag 9 18])))
def Ff:bC:=
 .seq (.an [ag 7 0,ea 8 7,eO 9])
 (.block 0 (.loop Lv))
theorem WR:b9 Tryz.prog Tryz.f54.ntmps (Tryz.f54.body.getD .skip)=Ff:=by kernel_rfl
theorem WS:cC Tryz.prog Tryz.f54.ntmps Tryz.f54.results.toList=[]:=by kernel_rfl
theorem WQ {args:List V} {h:af} {K:V→af→Prop} (ak:Nat.ble args.length 19=true) (H:b8 Tryz.prog Ff (aT.bh args) h fun e r ab=>e.ends∧∃ad,cv r ab []=some ad∧K (oneOf ad) ab):bB Tryz.prog 54 args h K:=
 cY follows cP Tryz.func54 (c:=Tryz.f54.body.getD .skip) (by kernel_rfl) (by kernel_rfl) (by kernel_rfl) ak WR WS (by kernel_rfl) H
def Lw:bC:=
 .seq (.an [fg 9 8 7])
 (.seq (.cond (.t 9)
 (.skip)
 (.exit 0))
 (.seq (.block 1 (.seq (.an [gP 10 6 8,dm 11 10,kD 5,⟨none,.st 5 (.t 5) (.t 11),none,[5,11]⟩])
 (.seq (.an [eF 12 5,bE 13 12,uJ 14 13])
 (.cond (.t 14)
 (.an [ag 15 3,iZ 16 5,bE 17 16,xg 18 17,j6 19 15 18,ag 3 19])
 (.skip)))))
 (.an [eN 20 8,ag 8 20])))
def Fg:bC:=
 .seq (.an [fm 2])
 (.seq (.an [fm 3])
 (.seq (.seq (.an [ag 6 0,ea 7 6,eO 8])
 (.block 0 (.loop Lw)))
 (.seq (.an [ag 21 3,ag 2 21])
 (.ret))))
theorem WU:b9 Tryz.prog Tryz.f55.ntmps (Tryz.f55.body.getD .skip)=Fg:=by kernel_rfl
theorem WV:cC Tryz.prog Tryz.f55.ntmps Tryz.f55.results.toList=[.t 2]:=by kernel_rfl
theorem WT {args:List V} {h:af} {K:V→af→Prop} (ak:Nat.ble args.length 22=true) (H:b8 Tryz.prog Fg (aT.bh args) h fun e r ab=>e.ends∧∃ad,cv r ab [.t 2]=some ad∧K (oneOf ad) ab):bB Tryz.prog 55 args h K:=
 cY follows cP Tryz.func55 (c:=Tryz.f55.body.getD .skip) (by kernel_rfl) (by kernel_rfl) (by kernel_rfl) ak WU WV (by kernel_rfl) H
def Ly:bC:=
 .seq (.seq (.an [ag 7 5,ag 8 0,ea 9 8,fg 10 7 9,ag 11 10,c0 12 0 11,c0 13 5 11,⟨some 14,.b_ 1 (.t 12) (.t 13),(some (11,true)),[12,13,11]⟩,fx 15 14 11,c0 16 1 11,⟨some 17,.bin (.str .lss) (.t 15) (.t 16),(some (11,true)),[15,16,11]⟩,c8 18 11 17])
 (.cond (.t 18)
 (.skip)
 (.exit 0)))
 (.block 1 (.an [ag 19 5,eN 20 19,ag 5 20]))
def Fi:bC:=
 .seq (.an [fm 4])
 (.seq (.an [eO 5])
 (.seq (.block 0 (.loop Ly))
 (.seq (.seq (.an [ag 21 5,ag 22 0,ea 23 22,fg 24 21 23,ag 25 24,c0 26 0 25,c0 27 5 25,⟨some 28,.b_ 1 (.t 26) (.t 27),(some (25,true)),[26,27,25]⟩,fx 29 28 25,c0 30 1 25,z7 31 29 30 25,c8 32 25 31])
 (.cond (.t 32)
 (.seq (.an [ag 33 0,ag 4 33])
 (.ret))
 (.skip)))
 (.seq (.an [⟨some 34,.hc 0 1 [(.str [])] [],none,[]⟩,ag 35 0,ag 36 5,⟨some 37,.eC 1 (.t 35) none (some (.t 36)) none,none,[35,36]⟩,j6 38 34 37,ag 6 38])
 (.seq (.an [ag 39 6,ag 40 1,xg 41 40,j6 42 39 41,ag 6 42])
 (.seq (.an [ag 43 6,ag 44 0,ag 45 5,⟨some 46,.eC 1 (.t 44) (some (.t 45)) none none,none,[44,45]⟩,j6 47 43 46,ag 4 47])
 (.ret)))))))
theorem W2:b9 Tryz.prog Tryz.f60.ntmps (Tryz.f60.body.getD .skip)=Fi:=by kernel_rfl
theorem W3:cC Tryz.prog Tryz.f60.ntmps Tryz.f60.results.toList=[.t 4]:=by kernel_rfl
theorem W1 {args:List V} {h:af} {K:V→af→Prop} (ak:Nat.ble args.length 48=true) (H:b8 Tryz.prog Fi (aT.bh args) h fun e r ab=>e.ends∧∃ad,cv r ab [.t 4]=some ad∧K (oneOf ad) ab):bB Tryz.prog 60 args h K:=
 cY follows cP Tryz.func60 (c:=Tryz.f60.body.getD .skip) (by kernel_rfl) (by kernel_rfl) (by kernel_rfl) ak W2 W3 (by kernel_rfl) H
def Fj:bC:=
 .seq (.an [fI 2 0,fm 4])
 (.seq (.seq (.an [eF 5 2,bE 6 5])
 (.block 0 (.seq (.seq (.an [Ac 8 6,ag 7 8])
 (.cond (.t 7)
 (.skip)
 (.an [xh 9 6,ag 7 9])))
 (.cond (.t 7)
 (.seq (.an [ag 10 1,re 11 10])
 (.cond (.t 11)
 (.seq (.an [fh 12 2,bE 13 12,xe 14 13,dm 15 14,⟨some 16,.call 26 [(.t 15)],none,[15]⟩,ag 4 16])
 (.ret))
 (.skip)))
 (.seq (.an [DZ 18 6,ag 17 18])
 (.cond (.t 17)
 (.seq (.an [ag 19 1,rh 20 19])
 (.cond (.t 20)
 (.seq (.an [fh 21 2,bE 22 21,xe 23 22,dm 24 23,⟨some 25,.call 26 [(.t 24)],none,[24]⟩,ag 4 25])
 (.ret))
 (.skip)))
 (.seq (.seq (.an [D0 27 6,ag 26 27])
 (.cond (.t 26)
 (.skip)
 (.an [D1 28 6,ag 26 28])))
 (.cond (.t 26)
 (.seq (.an [fh 29 2,bE 30 29,⟨some 31,.call 71 [(.t 30)],none,[30]⟩,ag 4 31])
 (.ret))
 (.skip)))))))))
 (.seq (.an [fm 4])
 (.ret)))
theorem W5:b9 Tryz.prog Tryz.f61.ntmps (Tryz.f61.body.getD .skip)=Fj:=by kernel_rfl
theorem W6:cC Tryz.prog Tryz.f61.ntmps Tryz.f61.results.toList=[.t 4]:=by kernel_rfl
theorem W4 {args:List V} {h:af} {K:V→af→Prop} (ak:Nat.ble args.length 32=true) (H:b8 Tryz.prog Fj (aT.bh args) h fun e r ab=>e.ends∧∃ad,cv r ab [.t 4]=some ad∧K (oneOf ad) ab):bB Tryz.prog 61 args h K:=
 cY follows cP Tryz.func61 (c:=Tryz.f61.body.getD .skip) (by kernel_rfl) (by kernel_rfl) (by kernel_rfl) ak W5 W6 (by kernel_rfl) H
def LB:bC:=
 .seq (.seq (.an [ag 5 4,ag 6 0,ea 7 6,fg 8 5 7])
 (.cond (.t 8)
 (.skip)
 (.exit 0)))
 (.seq (.block 1 (.seq (.an [ag 11 0,ag 12 4,gP 13 11 12,eF 14 13,bE 15 14,uJ 16 15])
 (.cond (.t 16)
 (.an [ag 17 3,ag 18 0,ag 19 4,gP 20 18 19,iZ 21 20,bE 22 21,xg 23 22,j6 24 17 23,ag 3 24])
 (.skip))))
 (.an [ag 9 4,eN 10 9,ag 4 10]))
def Fs:bC:=
 .seq (.an [fm 2])
 (.seq (.an [fm 3])
 (.seq (.seq (.an [eO 4])
 (.block 0 (.loop LB)))
 (.seq (.an [ag 25 3,ag 2 25])
 (.ret))))
theorem Xl:b9 Tryz.prog Tryz.f71.ntmps (Tryz.f71.body.getD .skip)=Fs:=by kernel_rfl
theorem Xm:cC Tryz.prog Tryz.f71.ntmps Tryz.f71.results.toList=[.t 2]:=by kernel_rfl
theorem Xk {args:List V} {h:af} {K:V→af→Prop} (ak:Nat.ble args.length 26=true) (H:b8 Tryz.prog Fs (aT.bh args) h fun e r ab=>e.ends∧∃ad,cv r ab [.t 2]=some ad∧K (oneOf ad) ab):bB Tryz.prog 71 args h K:=
 cY follows cP Tryz.func71 (c:=Tryz.f71.body.getD .skip) (by kernel_rfl) (by kernel_rfl) (by kernel_rfl) ak Xl Xm (by kernel_rfl) H
def E8:bC:=
 .seq (.an [fg 18 17 16])
 (.seq (.cond (.t 18)
 (.skip)
 (.exit 0))
 (.seq (.block 1 (.seq (.an [ag 19 17,gP 20 15 17,dm 21 20,kD 8,ag 7 19,⟨none,.st 5 (.t 8) (.t 21),none,[8,21]⟩])
 (.seq (.an [ag 22 1,ag 23 7,gP 24 22 23,dm 25 24,kD 9,⟨none,.st 5 (.t 9) (.t 25),none,[9,25]⟩])
 (.seq (.an [ag 26 2,dm 27 8,dm 28 9,⟨some 29,.ly (.t 26) [(.t 27),(.t 28)],none,[26,27,28]⟩,mM 30 29])
 (.cond (.t 30)
 (.seq (.an [dq 6])
 (.ret))
 (.skip))))))
 (.an [eN 31 17,ag 17 31])))
def AU:bC:=
 .seq (.an [dq 6])
 (.seq (.seq (.an [ag 10 0,ea 11 10,ag 12 1,ea 13 12,uB 14 11 13])
 (.cond (.t 14)
 (.seq (.an [dq 6])
 (.ret))
 (.skip)))
 (.seq (.seq (.an [ag 15 0,ea 16 15,eO 17])
 (.block 0 (.loop E8)))
 (.seq (.an [pM 6])
 (.ret))))
theorem We:b9 Tryz.prog Tryz.f41.ntmps (Tryz.f41.body.getD .skip)=AU:=by kernel_rfl
theorem Wf:cC Tryz.prog Tryz.f41.ntmps Tryz.f41.results.toList=[.t 6]:=by kernel_rfl
theorem Lr {args:List V} {h:af} {K:V→af→Prop} (ak:Nat.ble args.length 32=true) (H:b8 Tryz.prog AU (aT.bh args) h fun e r ab=>e.ends∧∃ad,cv r ab [.t 6]=some ad∧K (oneOf ad) ab):bB Tryz.prog 41 args h K:=
 cY follows cP Tryz.func41 (c:=Tryz.f41.body.getD .skip) (by kernel_rfl) (by kernel_rfl) (by kernel_rfl) ak We Wf (by kernel_rfl) H
def E':bC:=
 .seq (.an [fI 1 0,⟨some 2,.dz (.c .js),none,[]⟩])
 (.seq (.an [⟨some 3,.fn 58 [(.t 1)],none,[1]⟩,ag 2 3])
 (.ret))
theorem Wk:b9 Tryz.prog Tryz.f44.ntmps (Tryz.f44.body.getD .skip)=E':=by kernel_rfl
theorem Wl:cC Tryz.prog Tryz.f44.ntmps Tryz.f44.results.toList=[.t 2]:=by kernel_rfl
theorem Wj {args:List V} {h:af} {K:V→af→Prop} (ak:Nat.ble args.length 4=true) (H:b8 Tryz.prog E' (aT.bh args) h fun e r ab=>e.ends∧∃ad,cv r ab [.t 2]=some ad∧K (oneOf ad) ab):bB Tryz.prog 44 args h K:=
 cY follows cP Tryz.func44 (c:=Tryz.f44.body.getD .skip) (by kernel_rfl) (by kernel_rfl) (by kernel_rfl) ak Wk Wl (by kernel_rfl) H
theorem size_eq (t:aM):t.size=1+dt t.l:=by cases t;simp only [aM.size,aM.l]
theorem ag5:∀l m:List aM,r_ (l++m)=max (r_ l) (r_ m)
 | [],m=>by simp [r_]
 | t::l,m=>by rw [List.cons_append,r_,r_,ag5 l m,Nat.max_assoc]
theorem CX:∀l m:List aM,dt (l++m)=dt l+dt m
 | [],m=>by simp [dt]
 | t::l,m=>by rw [List.cons_append,dt,dt,CX l m,Nat.add_assoc]
theorem take_one {l:List aM} {i:Nat} (h:i<l.length):l.take (i+1)=l.take i++[l[i]]:=by rw [List.take_succ_eq_append_getElem h]
theorem Qt {l:List aM} {i:Nat} (h:i<l.length):dt (l.take (i+1))=dt (l.take i)+l[i].size:=by rw [take_one h,CX,dt,dt,Nat.add_zero]
theorem CY (l:List aM) (i:Nat):dt (l.take i)≤dt l:=by
 have:=CX (l.take i) (l.drop i)
 rw [List.take_append_drop] at this
 omega
end Go.Proofs.YtkehcalakofigaaGreatDoor
