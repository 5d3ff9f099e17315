/- The chapter's functions, walked by the abstract machine: plain lemmas, no condition. Printed by a program from longer texts: names made short. -/
import Derived.Test.YthemdhlheglhoaaGreatDoorM7
import Derived.Test.YthemdhlheglhoaaGreatDoorM4
import Derived.Test.YthemdhlheglhoaaGreatDoorM5
import Derived.WalkSmall
import Derived.Test.YthemdhlheglhoaaGreatDoorM6
import Derived.Shelf.Strings.Search3
import Derived.Shelf.Strings.OnBuilder
import Derived.Shelf.SlIterI.Nil
import Derived.Shelf.SortM.Plain
import Derived.Shelf.SortM.SortNone
import Derived.MakeChecks
import Derived.Shelf.Vars
import Derived.Lay
import Derived.LaidLaws
import Derived.Lib.LaidTab
import Derived.Lib.LaidU8T
import Derived.Test.YthemdhlheglhoaaGreatDoorRows
set_option linter.unusedSectionVars false
set_option linter.unusedSimpArgs false
set_option linter.unusedVariables false
namespace Go.Proofs.YthemdhlheglhoaaGreatDoor
open Go aY Go.RowKit
theorem xv {w:World} {p:Addr} {v:Value} (h:w.cell? p=some v):p.block<w.heap.size:=by
 unfold World.cell? at h
 by_cases q:p.block<w.heap.size
 · exact q
 · rw [Array.getElem?_eq_none (by omega)] at h
   cases h
def uM (w:World) (g:Nat):Prop:=∃aV,w.cell? ⟨g,0,none⟩=some aV∧(aV=.nilIface∨∃aeB NU,aV=.iface aeB NU)
theorem uM.gS {w aj:World} {g:Nat} (h:uM w g) (ah:Below w.heap.size w aj):uM aj g:=by
 obtain ⟨aV,aa,ae⟩:=h
 exact ⟨aV,by rw [ah.cell (xv aa)];exact aa,ae⟩
structure C6 (w:World):Prop where
 PU:Lib.Utf8Tabs 2 3 w
 maxLen:∃m,w.cell? ⟨0,0,none⟩=some (.int .i64 m)
 KC:uM w 7
 N2:Lib.TabIs Tryz.prog w "internal/strconv.uint64pow10" .u64 Lib.pow10Tab
noncomputable instance lay:Lay where
 ok w:=C6 w
 gS:=by
  intro w aj h ah
  refine ⟨?_,?_,h.KC.gS ah,?_⟩
  · obtain ⟨aa,ae⟩:=h.PU
    refine ⟨fun c aD=>?_,fun i aF=>?_⟩
    · rw [ah.cell (xv (aa c aD))]
      exact aa c aD
    · obtain ⟨au,az⟩:=ae i aF
      rw [ah.cell (xv au),ah.cell (xv az)]
      exact ⟨au,az⟩
  · obtain ⟨m,q⟩:=h.maxLen
    exact ⟨m,by rw [ah.cell (xv q)];exact q⟩
  · have aE:Tryz.prog.globalNamed "internal/strconv.uint64pow10"=some 1:=by kernel_rfl
    have ao:1<w.heap.size:=by
     have q:=h.N2
     unfold Lib.TabIs World.var? at q
     rw [aE] at q
     by_cases aW:1<w.heap.size
     · exact aW
     · simp only [Option.bind_some] at q
       rw [Array.getElem?_eq_none (by omega)] at q
       cases q
    exact var?_below ah aE ao h.N2
section
open Go.Shelf
def Tryz.aaM:Go.Shelf.Ren:=⟨fun | 144=>159 | 143=>167 | 219=>177 | 217=>138 | 225=>181 | 224=>182 | 267=>183 | 266=>153 | 314=>184 | n=>n,fun | 9=>9 | 4=>4 | 3=>3 | 5=>5 | 46=>141 | 146=>221 | 51=>164 | n=>n,fun | 1=>0 | n=>n⟩
theorem Tryz.aaL:Go.Proofs.Lays.n144 Tryz.prog Tryz.aaM:={
 mixed:=by kernel_rfl,
 f143:=Tryz.func167.trans (congrArg some (by kernel_rfl)),
 f144:=Tryz.func159.trans (congrArg some (by kernel_rfl)),
 f217:=Tryz.func138.trans (congrArg some (by kernel_rfl)),
 f219:=Tryz.func177.trans (congrArg some (by kernel_rfl)),
 f224:=Tryz.func182.trans (congrArg some (by kernel_rfl)),
 f225:=Tryz.func181.trans (congrArg some (by kernel_rfl)),
 f266:=Tryz.func153.trans (congrArg some (by kernel_rfl)),
 f267:=Tryz.func183.trans (congrArg some (by kernel_rfl)),
 f314:=Tryz.func184.trans (congrArg some (by kernel_rfl)),
 t3:=Tryz.underlying3,
 a3:=Tryz.isAgg3,
 z3:=Tryz.sizeOf3,
 v3:=Tryz.zeroValue3,
 t4:=Tryz.underlying4,
 a4:=Tryz.isAgg4,
 z4:=Tryz.sizeOf4,
 v4:=Tryz.zeroValue4,
 t5:=Tryz.underlying5,
 a5:=Tryz.isAgg5,
 z5:=Tryz.sizeOf5,
 v5:=Tryz.zeroValue5,
 t9:=Tryz.underlying9,
 a9:=Tryz.isAgg9,
 z9:=Tryz.sizeOf9,
 v9:=Tryz.zeroValue9,
 t46:=Tryz.underlying141,
 a46:=Tryz.isAgg141,
 z46:=Tryz.sizeOf141,
 v46:=Tryz.zeroValue141,
 t51:=Tryz.underlying164,
 a51:=Tryz.isAgg164,
 z51:=Tryz.sizeOf164,
 v51:=Tryz.zeroValue164,
 t146:=Tryz.underlying221,
 a146:=Tryz.isAgg221,
 z146:=Tryz.sizeOf221,
 v146:=Tryz.zeroValue221,
 g1:=by kernel_rfl}
def Tryz.MJ:Go.Shelf.Ren:=⟨fun | 156=>72 | 165=>95 | 166=>96 | 169=>97 | 240=>110 | 241=>111 | 276=>129 | 277=>130 | n=>n,fun | 31=>98 | 9=>9 | 3=>3 | 4=>4 | 0=>0 | 20=>20 | 72=>130 | 76=>134 | 70=>127 | 37=>128 | 75=>133 | 127=>155 | 164=>174 | 5=>5 | 80=>136 | n=>n,fun | n=>n⟩
theorem Tryz.MI:Go.Proofs.Lays.n156 Tryz.prog Tryz.MJ:={
 mixed:=by kernel_rfl,
 f156:=Tryz.func72.trans (congrArg some (by kernel_rfl)),
 f165:=Tryz.func95.trans (congrArg some (by kernel_rfl)),
 f166:=Tryz.func96.trans (congrArg some (by kernel_rfl)),
 f169:=Tryz.func97.trans (congrArg some (by kernel_rfl)),
 f240:=Tryz.func110.trans (congrArg some (by kernel_rfl)),
 f241:=Tryz.func111.trans (congrArg some (by kernel_rfl)),
 f276:=Tryz.func129.trans (congrArg some (by kernel_rfl)),
 f277:=Tryz.func130.trans (congrArg some (by kernel_rfl)),
 t0:=Tryz.underlying0,
 a0:=Tryz.isAgg0,
 z0:=Tryz.sizeOf0,
 v0:=Tryz.zeroValue0,
 t3:=Tryz.underlying3,
 a3:=Tryz.isAgg3,
 z3:=Tryz.sizeOf3,
 v3:=Tryz.zeroValue3,
 t4:=Tryz.underlying4,
 a4:=Tryz.isAgg4,
 z4:=Tryz.sizeOf4,
 v4:=Tryz.zeroValue4,
 t9:=Tryz.underlying9,
 a9:=Tryz.isAgg9,
 z9:=Tryz.sizeOf9,
 v9:=Tryz.zeroValue9,
 t20:=Tryz.underlying20,
 a20:=Tryz.isAgg20,
 z20:=Tryz.sizeOf20,
 v20:=Tryz.zeroValue20,
 t31:=Tryz.underlying98,
 a31:=Tryz.isAgg98,
 z31:=Tryz.sizeOf98,
 v31:=Tryz.zeroValue98,
 t37:=Tryz.underlying128,
 a37:=Tryz.isAgg128,
 z37:=Tryz.sizeOf128,
 v37:=Tryz.zeroValue128,
 t70:=Tryz.underlying127,
 a70:=Tryz.isAgg127,
 z70:=Tryz.sizeOf127,
 v70:=Tryz.zeroValue127,
 t72:=Tryz.underlying130,
 a72:=Tryz.isAgg130,
 z72:=Tryz.sizeOf130,
 v72:=Tryz.zeroValue130,
 t75:=Tryz.underlying133,
 a75:=Tryz.isAgg133,
 z75:=Tryz.sizeOf133,
 v75:=Tryz.zeroValue133,
 t76:=Tryz.underlying134,
 a76:=Tryz.isAgg134,
 z76:=Tryz.sizeOf134,
 v76:=Tryz.zeroValue134,
 t127:=Tryz.underlying155,
 a127:=Tryz.isAgg155,
 z127:=Tryz.sizeOf155,
 v127:=Tryz.zeroValue155,
 t164:=Tryz.underlying174,
 a164:=Tryz.isAgg174,
 z164:=Tryz.sizeOf174,
 v164:=Tryz.zeroValue174}
theorem Tryz.KE:Builder.Extra Tryz.prog Tryz.MJ where
 sizeBuilder:=by kernel_rfl
 liesBuilder:=by kernel_rfl
 t5:=Tryz.underlying5
 a5:=Tryz.isAgg5
 z5:=Tryz.sizeOf5
 v5:=Tryz.zeroValue5
 infoByte:=by kernel_rfl
 cellsByte:=by kernel_rfl
 sizeByte:=by kernel_rfl
 neB5:=by decide
def Tryz.MD:Go.Shelf.Ren:=⟨fun | 7=>51 | 10=>78 | n=>n,fun | 23=>65 | 26=>3 | 3=>67 | 28=>76 | 0=>0 | 27=>75 | 33=>111 | 4=>4 | n=>n,fun | n=>n⟩
theorem Tryz.ZW:Go.Proofs.SlLaysZI.n7 Tryz.prog Tryz.MD where
 mixed:=by kernel_rfl
 f7:=⟨"maps.Keys[gimlet/types.maker,int,*gimlet/types.node]",by decide,Tryz.func51.trans (congrArg some (by kernel_rfl))⟩
 f10:=⟨"maps.Keys[gimlet/types.maker,int,*gimlet/types.node]$1",by decide,Tryz.func78.trans (congrArg some (by kernel_rfl))⟩
 t0:=Tryz.underlying0
 a0:=Tryz.isAgg0
 z0:=Tryz.sizeOf0
 v0:=Tryz.zeroValue0
 t4:=Tryz.underlying4
 a4:=Tryz.isAgg4
 z4:=Tryz.sizeOf4
 v4:=Tryz.zeroValue4
 t23:=Tryz.underlying65
 a23:=Tryz.isAgg65
 z23:=Tryz.sizeOf65
 v23:=Tryz.zeroValue65
 t26:=Tryz.underlying3
 a26:=Tryz.isAgg3
 z26:=Tryz.sizeOf3
 v26:=Tryz.zeroValue3
 t27:=Tryz.underlying75
 a27:=Tryz.isAgg75
 z27:=Tryz.sizeOf75
 v27:=Tryz.zeroValue75
 t28:=Tryz.underlying76
 a28:=Tryz.isAgg76
 z28:=Tryz.sizeOf76
 v28:=Tryz.zeroValue76
 t33:=Tryz.underlying111
 a33:=Tryz.isAgg111
 z33:=Tryz.sizeOf111
 v33:=Tryz.zeroValue111
def Tryz.Pg:Go.Shelf.Ren:=⟨fun | 6=>50 | 8=>76 | 9=>77 | 11=>100 | 13=>102 | 12=>101 | 23=>121 | 24=>122 | 14=>112 | 15=>113 | 16=>114 | 17=>115 | 18=>116 | 19=>117 | 20=>118 | 21=>119 | 22=>120 | 25=>131 | 26=>132 | 27=>133 | 28=>134 | 29=>135 | 30=>136 | 31=>151 | n=>n,fun | 26=>3 | 28=>76 | 24=>51 | 0=>0 | 3=>3 | 37=>141 | 48=>164 | 50=>166 | 4=>4 | 40=>158 | 39=>157 | 45=>112 | 5=>5 | 9=>9 | 51=>177 | 55=>90 | 57=>190 | 58=>92 | 33=>111 | n=>n,fun | n=>n⟩
theorem Tryz.aec:Go.Proofs.SlLaysZI.n6 Tryz.prog Tryz.Pg where
 mixed:=by kernel_rfl
 f6:=⟨"slices.Sorted[int]",by decide,Tryz.func50.trans (congrArg some (by kernel_rfl))⟩
 f8:=⟨"slices.Collect[int]",by decide,Tryz.func76.trans (congrArg some (by kernel_rfl))⟩
 f11:=⟨"slices.AppendSeq[[]int,int]",by decide,Tryz.func100.trans (congrArg some (by kernel_rfl))⟩
 t0:=Tryz.underlying0
 a0:=Tryz.isAgg0
 z0:=Tryz.sizeOf0
 v0:=Tryz.zeroValue0
 t24:=Tryz.underlying51
 a24:=Tryz.isAgg51
 z24:=Tryz.sizeOf51
 v24:=Tryz.zeroValue51
 t26:=Tryz.underlying3
 a26:=Tryz.isAgg3
 z26:=Tryz.sizeOf3
 v26:=Tryz.zeroValue3
 t28:=Tryz.underlying76
 a28:=Tryz.isAgg76
 z28:=Tryz.sizeOf76
 v28:=Tryz.zeroValue76
 i26:=by kernel_rfl
def Tryz.aea:Go.Shelf.Ren:=⟨fun | 5=>77 | 8=>102 | 7=>101 | 19=>121 | 20=>122 | 10=>112 | 11=>113 | 12=>114 | 13=>115 | 14=>116 | 15=>117 | 16=>118 | 17=>119 | 18=>120 | 30=>131 | 31=>132 | 32=>133 | 33=>134 | 34=>135 | 35=>136 | 40=>151 | n=>n,fun | 23=>51 | 25=>3 | 3=>3 | 32=>141 | 22=>51 | 0=>0 | 44=>164 | 46=>166 | 4=>4 | 36=>158 | 35=>157 | 41=>112 | 5=>5 | 9=>9 | 53=>177 | 57=>90 | 63=>190 | 64=>92 | n=>n,fun | n=>n⟩
theorem Tryz.Pe:Go.Proofs.SlLaysM.n5 Tryz.prog Tryz.aea where
 mixed:=by kernel_rfl
 f5:=⟨"slices.Sort[[]int,int]",by decide,Tryz.func77.trans (congrArg some (by kernel_rfl))⟩
 f7:=⟨"slices.pdqsortOrdered[int]",by decide,Tryz.func101.trans (congrArg some (by kernel_rfl))⟩
 f8:=Tryz.func102.trans (congrArg some (by kernel_rfl))
 f10:=⟨"slices.insertionSortOrdered[int]",by decide,Tryz.func112.trans (congrArg some (by kernel_rfl))⟩
 f11:=⟨"slices.heapSortOrdered[int]",by decide,Tryz.func113.trans (congrArg some (by kernel_rfl))⟩
 f12:=⟨"slices.breakPatternsOrdered[int]",by decide,Tryz.func114.trans (congrArg some (by kernel_rfl))⟩
 f13:=⟨"slices.choosePivotOrdered[int]",by decide,Tryz.func115.trans (congrArg some (by kernel_rfl))⟩
 f14:=⟨"slices.reverseRangeOrdered[int]",by decide,Tryz.func116.trans (congrArg some (by kernel_rfl))⟩
 f15:=⟨"slices.partialInsertionSortOrdered[int]",by decide,Tryz.func117.trans (congrArg some (by kernel_rfl))⟩
 f16:=⟨"cmp.Less[int]",by decide,Tryz.func118.trans (congrArg some (by kernel_rfl))⟩
 f17:=⟨"slices.partitionEqualOrdered[int]",by decide,Tryz.func119.trans (congrArg some (by kernel_rfl))⟩
 f18:=⟨"slices.partitionOrdered[int]",by decide,Tryz.func120.trans (congrArg some (by kernel_rfl))⟩
 f19:=Tryz.func121.trans (congrArg some (by kernel_rfl))
 f20:=Tryz.func122.trans (congrArg some (by kernel_rfl))
 f30:=⟨"slices.siftDownOrdered[int]",by decide,Tryz.func131.trans (congrArg some (by kernel_rfl))⟩
 f31:=Tryz.func132.trans (congrArg some (by kernel_rfl))
 f32:=Tryz.func133.trans (congrArg some (by kernel_rfl))
 f33:=⟨"slices.medianAdjacentOrdered[int]",by decide,Tryz.func134.trans (congrArg some (by kernel_rfl))⟩
 f34:=⟨"slices.medianOrdered[int]",by decide,Tryz.func135.trans (congrArg some (by kernel_rfl))⟩
 f35:=⟨"cmp.isNaN[int]",by decide,Tryz.func136.trans (congrArg some (by kernel_rfl))⟩
 f40:=⟨"slices.order2Ordered[int]",by decide,Tryz.func151.trans (congrArg some (by kernel_rfl))⟩
 t0:=Tryz.underlying0
 a0:=Tryz.isAgg0
 z0:=Tryz.sizeOf0
 v0:=Tryz.zeroValue0
 t3:=Tryz.underlying3
 a3:=Tryz.isAgg3
 z3:=Tryz.sizeOf3
 v3:=Tryz.zeroValue3
 t4:=Tryz.underlying4
 a4:=Tryz.isAgg4
 z4:=Tryz.sizeOf4
 v4:=Tryz.zeroValue4
 t5:=Tryz.underlying5
 a5:=Tryz.isAgg5
 z5:=Tryz.sizeOf5
 v5:=Tryz.zeroValue5
 t9:=Tryz.underlying9
 a9:=Tryz.isAgg9
 z9:=Tryz.sizeOf9
 v9:=Tryz.zeroValue9
 t22:=Tryz.underlying51
 a22:=Tryz.isAgg51
 z22:=Tryz.sizeOf51
 v22:=Tryz.zeroValue51
 t23:=Tryz.underlying51
 a23:=Tryz.isAgg51
 z23:=Tryz.sizeOf51
 v23:=Tryz.zeroValue51
 t25:=Tryz.underlying3
 a25:=Tryz.isAgg3
 z25:=Tryz.sizeOf3
 v25:=Tryz.zeroValue3
 t32:=Tryz.underlying141
 a32:=Tryz.isAgg141
 z32:=Tryz.sizeOf141
 v32:=Tryz.zeroValue141
 t35:=Tryz.underlying157
 a35:=Tryz.isAgg157
 z35:=Tryz.sizeOf157
 v35:=Tryz.zeroValue157
 t36:=Tryz.underlying158
 a36:=Tryz.isAgg158
 z36:=Tryz.sizeOf158
 v36:=Tryz.zeroValue158
 t41:=Tryz.underlying112
 a41:=Tryz.isAgg112
 z41:=Tryz.sizeOf112
 v41:=Tryz.zeroValue112
 t44:=Tryz.underlying164
 a44:=Tryz.isAgg164
 z44:=Tryz.sizeOf164
 v44:=Tryz.zeroValue164
 t46:=Tryz.underlying166
 a46:=Tryz.isAgg166
 z46:=Tryz.sizeOf166
 v46:=Tryz.zeroValue166
 t53:=Tryz.underlying177
 a53:=Tryz.isAgg177
 z53:=Tryz.sizeOf177
 v53:=Tryz.zeroValue177
 t57:=Tryz.underlying90
 a57:=Tryz.isAgg90
 z57:=Tryz.sizeOf90
 v57:=Tryz.zeroValue90
 t63:=Tryz.underlying190
 a63:=Tryz.isAgg190
 z63:=Tryz.sizeOf190
 v63:=Tryz.zeroValue190
 t64:=Tryz.underlying92
 a64:=Tryz.isAgg92
 z64:=Tryz.sizeOf92
 v64:=Tryz.zeroValue92
theorem J0 (s sub:ByteArray) (m:Int) (w:World) (aO:s.size<4294967281) (hm:w.cell? ⟨0,0,none⟩=some (.int .i64 m)):
 Calls Tryz.prog 159 #[.string s,.string sub] w fun e aj=>e=.returned (.bool (Lib.contains s.data.toList sub.data.toList))∧aj=w:=Any.strings_Contains Tryz.aaL s sub m w aO hm
end
section
open Go.RowKit Go.Maps Go.Sort Go.Shelf
theorem aef (m:Nat):AnyZI.SortsIn Tryz.prog Tryz.Pg Fence.wide m:=
 ⟨fun bc off cap fp W kF jT cc=>callsIn_wide.2 (AnyM.slices_Sort_int Tryz.Pe bc off cap fp W kF jT cc),
  fun p cap W=>callsIn_wide.2 (AnyM.slices_Sort_int_none Tryz.Pe p cap W)⟩
theorem aed:aY.I9 Tryz.prog 50 78 3:=by
 intro sN b G5 rz R w Wi tv ho vI WH
 have X1:SeqGives Fence.wide 2 Tryz.prog 78 #[.pointer (some ⟨sN,0,none⟩)] encZ (fun fp=>fp.Perm (intKeys rz)) (Maps.size rz) w:=
  AnyZI.keys_gives (ρ:=Tryz.MD) {Tryz.ZW with} Fence.wide _ trivial rfl (by omega) sN b G5 rz w Wi tv ho
 have Eo:=AnyZI.sorted_in Tryz.aec Fence.wide 5 trivial trivial trivial trivial rfl (by omega) (aef _) (enters_of Tryz.func77 (by kernel_rfl) rfl) 78 #[.pointer (some ⟨sN,0,none⟩)] trivial (enters_of Tryz.func78 (by kernel_rfl) rfl) _ _ vI WH _ X1
 change CallsIn _ _ Tryz.prog 50 _ _ _ at Eo
 exact callsIn_wide.1 (Eo.mono fun e aj q=>by
  obtain ⟨v,fp,rfl,eo,Ga,XE,ah⟩:=q
  exact ⟨v,fp,rfl,eo,Ga,XE,ah⟩)
end
theorem YO:C2 Tryz.prog 72:=
 ⟨fun xt o c xs sep w aa ae aH bf cB=>Go.Proofs.Any.strings_Join Tryz.MI Tryz.KE xt o c xs sep w aa ae aH bf cB,fun a c sep w=>Go.Proofs.Any.strings_Join_none Tryz.MI Tryz.KE a c sep w⟩
noncomputable def ctx:Ctx:=⟨Tryz.prog,fun f=>bif Nat.beq f 159 then some Ex else bif Nat.beq f 50 then some (H6 78) else bif Nat.beq f 72 then some GA else none,fun f=>bif Nat.beq f 153 then some Bp else none⟩
theorem follows:ctx.P.follows .mixedOrders=true:=by kernel_rfl
theorem eQ:eI ctx.P:=by
 intro f fn ar
 have ev:(Tryz.prog.funcs.toList.all fun fn=>!(fn.name == "runtime.NumGoroutine"))=true:=by kernel_rfl
 have:=List.all_eq_true.1 ev fn (Array.mem_toList_iff.2 (Array.mem_of_getElem? ar))
 simpa using this
theorem acY:qm ctx:=by
 refine ⟨fun f p args h v ab ag he=>?_,fun f p args h v ab ag he aq E w xs ak s=>?_⟩
 · simp only [ctx,hL] at ag
   by_cases ar:f=159
   · rw [if_pos ar] at ag
     cases ag
     subst ar
     obtain ⟨s,sub,rfl,aO,rfl,rfl⟩:=Uy he
     refine ⟨⟨_,Tryz.func159,by kernel_rfl⟩,aaE fun E xs w ao ak=>?_⟩
     obtain ⟨y,cA,rfl,au,z,jg,rfl,az,rfl⟩:=ak
     simp only [Rel] at au az
     subst au az
     obtain ⟨m,hm⟩:=ao.maxLen
     refine (J0 ⟨⟨s⟩⟩ ⟨⟨sub⟩⟩ m w (by show s.length<4294967281;omega) hm).mono fun e aj q=>?_
     obtain ⟨rfl,rfl⟩:=q
     exact ⟨_,rfl,by simp only [Rel],Below.refl _ _⟩
   · rw [if_neg ar] at ag
     by_cases ar:f=50
     · rw [if_pos ar] at ag
       cases ag
       subst ar
       exact ⟨⟨_,Tryz.func50,by kernel_rfl⟩,fun aq E w xs ak s=>aee (by decide) Tryz.underlying3 aed he aq E w xs ak s⟩
     · rw [if_neg ar] at ag
       by_cases ar:f=72
       · rw [if_pos ar] at ag
         cases ag
         subst ar
         exact ⟨⟨_,Tryz.func72,by kernel_rfl⟩,fun aq E w xs ak s=>YN YO he aq E w xs ak s⟩
       · rw [if_neg ar] at ag;cases ag
 · simp only [ctx,hL] at ag
   by_cases ar:f=153
   · rw [if_pos ar] at ag
     cases ag
     subst ar
     exact YB (P:=Tryz.prog) Tryz.func153 (by kernel_rfl) (by kernel_rfl) (by kernel_rfl) (by kernel_rfl) he aq E w xs ak s
   · rw [if_neg ar] at ag;cases ag
end Go.Proofs.YthemdhlheglhoaaGreatDoor
namespace Go.Proofs.YthemdhlheglhoaaGreatDoor
open Go aY
abbrev aC (d bw:Nat):bI:=⟨some d,.gH (.t bw),none,[bw]⟩
abbrev ch (d bw:Nat):bI:=⟨some d,.jy (.t bw),none,[bw]⟩
abbrev dh (d bw:Nat):bI:=⟨some d,.sj (.t bw),none,[bw]⟩
abbrev dG (d bw:Nat):bI:=⟨some d,.ki 4 (.t bw),none,[bw]⟩
abbrev eB (d bw bx:Nat):bI:=⟨some d,.pick (.t bw) (.t bx) (.c (.bool false)),none,[bw,bx]⟩
abbrev eC (d bw:Nat):bI:=⟨some d,.jR 1 (.t bw),none,[bw]⟩
abbrev eY (d bw bx:Nat):bI:=⟨some d,.gH (.t bw),(some (bx,true)),[bw,bx]⟩
abbrev gB (d:Nat):bI:=⟨some d,.gH (.c (.bool false)),none,[]⟩
abbrev gX (d bw bx:Nat):bI:=⟨some d,.jy (.t bw),(some (bx,true)),[bw,bx]⟩
abbrev hx (d bw:Nat):bI:=⟨some d,.bin (.int .add) (.t bw) (.c (.int .i64 1)),none,[bw]⟩
abbrev iu (d bw:Nat):bI:=⟨some d,.box (.t bw),none,[bw]⟩
abbrev jL (d:Nat):bI:=⟨some d,.new [(.int .i64 0),(.int .i64 0),(.str []),.cq],none,[]⟩
abbrev jM (d:Nat):bI:=⟨some d,.gH (.c (.int .i64 0)),none,[]⟩
abbrev jN (d bw:Nat):bI:=⟨some d,.jR 0 (.t bw),none,[bw]⟩
abbrev kX (d bw bx:Nat):bI:=⟨some d,.pick (.t bw) (.c (.bool true)) (.t bx),none,[bw,bx]⟩
abbrev l_ (d bw:Nat):bI:=⟨some d,.ext (.t bw) 0,none,[bw]⟩
abbrev ma (d bw:Nat):bI:=⟨some d,.ext (.t bw) 1,none,[bw]⟩
abbrev mb (d bw:Nat):bI:=⟨some d,.len .slice (.t bw),none,[bw]⟩
abbrev mc (d bw:Nat):bI:=⟨some d,.jR 2 (.t bw),none,[bw]⟩
abbrev mO (d bw bx:Nat):bI:=⟨some d,.bin (.int .lss) (.t bw) (.t bx),none,[bw,bx]⟩
abbrev mP (d bw:Nat):bI:=⟨some d,.len .str (.t bw),none,[bw]⟩
abbrev nB (d bw bx:Nat):bI:=⟨some d,.ki 4 (.t bw),(some (bx,true)),[bw,bx]⟩
abbrev po (d bw bx:Nat):bI:=⟨some d,.gH (.t bw),(some (bx,false)),[bw,bx]⟩
abbrev pq (d:Nat):bI:=⟨some d,.gH (.c .cq),none,[]⟩
abbrev pr (d bw bx:Nat):bI:=⟨some d,.ki 4 (.t bw),(some (bx,false)),[bw,bx]⟩
abbrev ps (d bw:Nat):bI:=⟨some d,.jR 3 (.t bw),none,[bw]⟩
abbrev qi (d bw bx:Nat):bI:=⟨some d,.fz 4 (.t bw) (.t bx),none,[bw,bx]⟩
abbrev rB (d bw bx:Nat):bI:=⟨some d,.jR 3 (.t bw),(some (bx,true)),[bw,bx]⟩
abbrev sT (d bw:Nat):bI:=⟨some d,.kA 1 4 [(.int .i64 0),(.int .i64 0),(.str []),.cq] [(0,4,(.t bw))],none,[bw]⟩
abbrev sU (d bw bx:Nat):bI:=⟨some d,.jR 1 (.t bw),(some (bx,true)),[bw,bx]⟩
abbrev uO (d bw:Nat):bI:=⟨some d,.bin (.int .eql) (.t bw) (.c (.int .i64 0)),none,[bw]⟩
abbrev uP (d bw:Nat):bI:=⟨some d,.un .not (.t bw),none,[bw]⟩
abbrev uQ (d:Nat):bI:=⟨some d,.new [(.int .i64 0)],none,[]⟩
abbrev uR (d bw bx:Nat):bI:=⟨some d,.jR 2 (.t bw),(some (bx,true)),[bw,bx]⟩
abbrev uS (d bw bx:Nat):bI:=⟨some d,.sj (.t bw),(some (bx,true)),[bw,bx]⟩
abbrev w8 (d bw bx c1:Nat):bI:=⟨some d,.bin (.int .eql) (.t bw) (.t bx),(some (c1,true)),[bw,bx,c1]⟩
abbrev w9 (d bw bx:Nat):bI:=⟨some d,.app 4 (.t bw) (.t bx),none,[bw,bx]⟩
abbrev w' (d bw bx:Nat):bI:=⟨some d,.jR 0 (.t bw),(some (bx,true)),[bw,bx]⟩
abbrev w_ (d:Nat):bI:=⟨some d,.new [(.int .i64 0),(.int .i64 0),(.int .i64 0),(.str [])],none,[]⟩
abbrev zv (d bw:Nat):bI:=⟨some d,.build [(.int .i64 0),(.int .i64 0),(.str []),.cq] [(0,1,(.c (.int .i64 1))),(1,1,(.t bw))],none,[bw]⟩
abbrev zw (d bw bx:Nat):bI:=⟨some d,.un .not (.t bw),(some (bx,true)),[bw,bx]⟩
abbrev zx (d:Nat):bI:=⟨some d,.gH (.c (.bool true)),none,[]⟩
abbrev zy (d:Nat):bI:=⟨some d,.build [(.int .i64 0),(.int .i64 0),(.str []),.cq] [],none,[]⟩
abbrev zz (d bw:Nat):bI:=⟨some d,.bin (.int .neq) (.t bw) (.c (.int .i64 0)),none,[bw]⟩
abbrev zA (d bw bx c1:Nat):bI:=⟨some d,.oG (.t bw) [(.t bx),(.t c1)],none,[bw,bx,c1]⟩
abbrev zB (d bw bx c1:Nat):bI:=⟨some d,.bin (.str .eql) (.t bw) (.t bx),(some (c1,true)),[bw,bx,c1]⟩
abbrev zC (d bw:Nat):bI:=⟨some d,.bin (.int .eql) (.t bw) (.c (.int .i64 1)),none,[bw]⟩
abbrev zD (d bw bx:Nat):bI:=⟨some d,.len .slice (.t bw),(some (bx,true)),[bw,bx]⟩
abbrev zE (d bw bx:Nat):bI:=⟨some d,.bin (.int .geq) (.t bw) (.t bx),none,[bw,bx]⟩
abbrev CV (d bw bx c1:Nat):bI:=⟨some d,.call 17 [(.t bw),(.t bx)],(some (c1,true)),[bw,bx,c1]⟩
abbrev CW (d bw bx c1:Nat):bI:=⟨some d,.call 27 [(.t bw),(.t bx)],(some (c1,true)),[bw,bx,c1]⟩
abbrev CX (d bw bx:Nat):bI:=⟨some d,.bin (.int .neq) (.t bw) (.c (.int .i64 0)),(some (bx,false)),[bw,bx]⟩
abbrev CY (d bw bx c1:Nat):bI:=⟨some d,.call 60 [(.t bw),(.t bx),(.t c1)],none,[bw,bx,c1]⟩
abbrev CZ (d bw:Nat):bI:=⟨some d,.bin (.int .geq) (.t bw) (.c (.int .i64 0)),none,[bw]⟩
abbrev C0 (d bw bx:Nat):bI:=⟨some d,.qb (.t bw) (some (.t bx)) none none,none,[bw,bx]⟩
abbrev C1 (d:Nat):bI:=⟨some d,.build [(.int .i64 0),(.int .i64 0),(.int .i64 0),(.str [])] [],none,[]⟩
abbrev IX (d bw bx:Nat):bI:=⟨some d,.look .int (.agg [(.int .i64 0),(.int .i64 0),(.str []),.cq]) true (.t bw) (.t bx),none,[bw,bx]⟩
abbrev IY (d bw:Nat):bI:=⟨some d,.build [(.int .i64 0),(.int .i64 0),(.int .i64 0),(.str [])] [(0,1,(.c (.int .i64 7))),(3,1,(.t bw))],none,[bw]⟩
def c3:bV:=
 .seq (.aJ [gB 4])
 (.seq (.seq (.aJ [aC 12 0,⟨some 13,.call 10 [(.t 12),(.c (.int .i64 300))],none,[12]⟩,aC 14 13,po 15 1 14,⟨some 16,.call 10 [(.t 15),(.c (.int .i64 300))],(some (14,false)),[15,14]⟩,kX 17 14 16])
 (.cond (.t 17)
 (.seq (.aJ [⟨some 18,.call 11 [],none,[]⟩,aC 4 18])
 (.ret))
 (.skip)))
 (.seq (.aJ [aC 19 0,⟨some 20,.call 12 [(.t 19)],none,[19]⟩,aC 21 1,⟨some 22,.call 12 [(.t 21)],none,[21]⟩,aC 5 20,aC 6 22])
 (.seq (.aJ [aC 24 5,aC 25 6,⟨some 26,.call 13 [(.t 24),(.t 25)],none,[24,25]⟩,aC 23 26,l_ 27 23,ma 28 23,aC 7 27,aC 8 28])
 (.seq (.aJ [aC 30 0,aC 31 1,⟨some 32,.call 14 [(.t 30),(.t 31)],none,[30,31]⟩,aC 29 32,l_ 33 29,ma 34 29,aC 9 33,aC 10 34])
 (.seq (.aJ [aC 35 7,aC 36 9,⟨some 37,.call 15 [(.t 35),(.t 36)],none,[35,36]⟩,aC 38 37,eY 39 8 38,eY 40 10 38,w8 41 39 40 38,eB 42 38 41,aC 11 42])
 (.seq (.aJ [aC 43 7,⟨some 44,.call 16 [(.t 43)],none,[43]⟩])
 (.seq (.aJ [aC 45 11,aC 46 45,eY 47 5 46,eY 48 0 46,CV 49 47 48 46,eB 50 46 49,aC 51 50,eY 52 6 51,eY 53 1 51,CV 54 52 53 51,eB 55 51 54,aC 56 55,⟨some 57,.call 11 [],(some (56,true)),[56]⟩,eB 58 56 57,aC 4 58])
 (.ret))))))))
def Tv:bV:=
 .seq (.seq (.aJ [aC 19 7,aC 20 0,mO 21 19 20])
 (.cond (.t 21)
 (.skip)
 (.exit 0)))
 (.seq (.block 1 (.seq (.aJ [aC 24 7,hx 25 24,zv 26 25,jL 8,⟨none,.st 4 (.t 8) (.t 26),none,[8,26]⟩])
 (.seq (.aJ [aC 27 5,aC 28 7,zv 29 28,sT 30 29,w9 31 27 30,aC 5 31])
 (.aJ [aC 32 6,dG 33 8,dG 34 8,⟨some 35,.kA 2 4 [(.int .i64 0),(.int .i64 0),(.str []),.cq] [(0,4,(.t 33)),(4,4,(.t 34))],none,[33,34]⟩,⟨some 36,.build [(.int .i64 0),(.int .i64 0),(.str []),.cq] [(0,1,(.c (.int .i64 2))),(2,1,(.c (.str [42]))),(3,1,(.t 35))],none,[35]⟩,sT 37 36,w9 38 32 37,aC 6 38]))))
 (.aJ [aC 22 7,hx 23 22,aC 7 23]))
def Tw:bV:=
 .seq (.seq (.aJ [aC 41 10,aC 42 1,mO 43 41 42])
 (.cond (.t 43)
 (.skip)
 (.exit 2)))
 (.seq (.block 3 (.aJ [dG 46 9,sT 47 46,⟨some 48,.build [(.int .i64 0),(.int .i64 0),(.str []),.cq] [(0,1,(.c (.int .i64 2))),(2,1,(.c (.str [114,101,102]))),(3,1,(.t 47))],none,[47]⟩,⟨none,.st 4 (.t 9) (.t 48),none,[9,48]⟩]))
 (.aJ [aC 44 10,hx 45 44,aC 10 45]))
def fj:bV:=
 .seq (.aJ [gB 4])
 (.seq (.aJ [aC 15 0,⟨some 16,.call 18 [(.t 15),(.c (.int .i64 15))],none,[15]⟩,aC 17 1,⟨some 18,.call 18 [(.t 17),(.c (.int .i64 206))],none,[17]⟩,aC 0 16,aC 1 18])
 (.seq (.aJ [pq 5,pq 6])
 (.seq (.seq (.aJ [jM 7])
 (.block 0 (.loop Tv)))
 (.seq (.aJ [aC 39 0,zv 40 39,jL 9,⟨none,.st 4 (.t 9) (.t 40),none,[9,40]⟩])
 (.seq (.seq (.aJ [⟨some 10,.gH (.c (.int .i64 1)),none,[]⟩])
 (.block 2 (.loop Tw)))
 (.seq (.aJ [aC 50 5,aC 51 6,⟨some 52,.call 13 [(.t 50),(.t 51)],none,[50,51]⟩,aC 49 52,l_ 53 49,ma 54 49,aC 11 53,aC 12 54])
 (.seq (.aJ [aC 56 5,aC 57 6,⟨some 58,.call 14 [(.t 56),(.t 57)],none,[56,57]⟩,aC 55 58,l_ 59 55,ma 60 55,aC 13 59,aC 14 60])
 (.seq (.draw [aC 61 11,aC 62 13,⟨some 63,.call 15 [(.t 61),(.t 62)],none,[61,62]⟩,aC 64 63,eY 65 12 64,eY 66 14 64,w8 67 65 66 64,eB 68 64 67,aC 69 68,nB 70 9 69,nB 72 9 69,⟨some 71,.call 19 [(.t 70)],(some (69,true)),[70,69]⟩,⟨some 73,.call 20 [(.t 72)],(some (69,true)),[72,69]⟩,w8 74 71 73 69,eB 75 69 74,aC 76 75,nB 77 9 76,eY 80 1 76,⟨some 81,.bin (.int .leq) (.t 80) (.c (.int .i64 200)),(some (76,true)),[80,76]⟩,⟨some 78,.call 19 [(.t 77)],(some (76,true)),[77,76]⟩,⟨some 79,.bin (.int .eql) (.t 78) (.c (.int .i64 0)),(some (76,true)),[78,76]⟩,⟨some 82,.bin (.tj false) (.t 79) (.t 81),(some (76,true)),[79,81,76]⟩,eB 83 76 82,aC 84 83,⟨some 85,.call 11 [],(some (84,true)),[84]⟩,eB 86 84 85,aC 4 86] [(9,[11]),(10,[11,12]),(16,[19])])
 (.ret)))))))))
def c5:bV:=
 .seq (.aJ [iu 3 1,gB 4])
 (.seq (.seq (.aJ [aC 12 0,⟨some 13,.call 21 [(.t 12),(.c (.int .i64 300))],none,[12]⟩,aC 14 13,pr 15 3 14,⟨some 16,.kA 1 4 [(.int .i64 0),(.int .i64 0),(.str []),.cq] [(0,4,(.t 15))],(some (14,false)),[15,14]⟩,⟨some 17,.call 10 [(.t 16),(.c (.int .i64 300))],(some (14,false)),[16,14]⟩,kX 18 14 17])
 (.cond (.t 18)
 (.seq (.aJ [⟨some 19,.call 11 [],none,[]⟩,aC 4 19])
 (.ret))
 (.skip)))
 (.seq (.aJ [dG 20 3,sT 21 20,⟨some 22,.call 12 [(.t 21)],none,[21]⟩,aC 23 0,⟨some 24,.call 22 [(.t 23)],none,[23]⟩,aC 5 22,aC 6 24])
 (.seq (.aJ [aC 26 6,aC 27 5,⟨some 28,.fz 4 (.t 27) (.c (.int .i64 0)),none,[27]⟩,dG 29 28,⟨some 30,.call 23 [(.t 26),(.t 29)],none,[26,29]⟩,aC 25 30,l_ 31 25,ma 32 25,jL 7,⟨none,.st 4 (.t 7) (.t 31),none,[7,31]⟩,aC 8 32])
 (.seq (.aJ [aC 34 0,dG 35 3,⟨some 36,.call 24 [(.t 34),(.t 35)],none,[34,35]⟩,aC 33 36,l_ 37 33,ma 38 33,jL 9,⟨none,.st 4 (.t 9) (.t 37),none,[9,37]⟩,aC 10 38])
 (.seq (.aJ [dG 39 7,dG 40 9,⟨some 41,.call 25 [(.t 39),(.t 40)],none,[39,40]⟩,aC 42 41,eY 43 8 42,eY 44 10 42,w8 45 43 44 42,eB 46 42 45,aC 11 46])
 (.seq (.aJ [dG 47 7,sT 48 47,⟨some 49,.call 26 [(.t 48)],none,[48]⟩])
 (.seq (.aJ [aC 50 11,aC 51 50,eY 52 5 51,nB 53 3 51,⟨some 54,.kA 1 4 [(.int .i64 0),(.int .i64 0),(.str []),.cq] [(0,4,(.t 53))],(some (51,true)),[53,51]⟩,CV 55 52 54 51,eB 56 51 55,aC 57 56,eY 58 6 57,eY 59 0 57,⟨some 60,.call 15 [(.t 58),(.t 59)],(some (57,true)),[58,59,57]⟩,eB 61 57 60,aC 62 61,⟨some 63,.call 11 [],(some (62,true)),[62]⟩,eB 64 62 63,aC 4 64])
 (.ret))))))))
def Eg:bV:=
 .seq (.aJ [iu 3 0,iu 4 1,iu 5 2,gB 6])
 (.seq (.aJ [⟨some 11,.call 11 [],none,[]⟩,aC 7 11])
 (.seq (.seq (.aJ [dG 12 3,dG 13 4,dG 14 5,⟨some 15,.kA 3 4 [(.int .i64 0),(.int .i64 0),(.str []),.cq] [(0,4,(.t 12)),(4,4,(.t 13)),(8,4,(.t 14))],none,[12,13,14]⟩,⟨some 16,.call 10 [(.t 15),(.c (.int .i64 200))],none,[15]⟩])
 (.cond (.t 16)
 (.seq (.aJ [aC 17 7,aC 6 17])
 (.ret))
 (.skip)))
 (.seq (.aJ [dG 18 3,⟨some 19,.call 19 [(.t 18)],none,[18]⟩,uO 20 19,aC 8 20])
 (.seq (.seq (.aJ [dG 21 3,dG 22 3,⟨some 23,.call 27 [(.t 21),(.t 22)],none,[21,22]⟩,aC 24 8,⟨some 25,.bin (.tj true) (.t 23) (.t 24),none,[23,24]⟩,aC 26 25,pr 27 3 26,pr 28 4 26,⟨some 29,.call 27 [(.t 27),(.t 28)],(some (26,false)),[27,28,26]⟩,po 30 29 26,nB 31 4 30,nB 32 5 30,CW 33 31 32 30,⟨some 34,.pick (.t 30) (.t 33) (.c (.bool false)),(some (26,false)),[30,33,26]⟩,po 35 34 26,nB 36 3 35,nB 37 5 35,CW 38 36 37 35,zw 39 38 35,⟨some 40,.pick (.t 35) (.t 39) (.c (.bool false)),(some (26,false)),[35,39,26]⟩,kX 41 26 40])
 (.cond (.t 41)
 (.seq (.aJ [gB 6])
 (.ret))
 (.skip)))
 (.seq (.seq (.draw [dG 42 3,dG 43 4,⟨some 44,.call 27 [(.t 42),(.t 43)],none,[42,43]⟩,aC 45 44,nB 46 4 45,nB 47 3 45,CW 48 46 47 45,eB 49 45 48,aC 50 49,nB 51 3 50,nB 53 4 50,⟨some 52,.call 29 [(.t 51)],(some (50,true)),[51,50]⟩,⟨some 54,.call 29 [(.t 53)],(some (50,true)),[53,50]⟩,⟨some 55,.call 28 [(.t 52),(.t 54)],(some (50,true)),[52,54,50]⟩,zw 56 55 50,eB 57 50 56] [(0,[2]),(1,[2]),(4,[6]),(5,[6]),(9,[11]),(10,[11,12])])
 (.cond (.t 57)
 (.seq (.aJ [gB 6])
 (.ret))
 (.skip)))
 (.seq (.aJ [dG 59 4,⟨some 60,.build [(.int .i64 0),(.int .i64 0),(.int .i64 0),(.str []),.cq] [(0,1,(.c (.int .i64 0))),(1,4,(.t 59))],none,[59]⟩,⟨some 61,.kA 1 5 [(.int .i64 0),(.int .i64 0),(.int .i64 0),(.str []),.cq] [(0,5,(.t 60))],none,[60]⟩,dG 62 3,⟨some 63,.call 23 [(.t 61),(.t 62)],none,[61,62]⟩,aC 58 63,l_ 64 58,ma 65 58,jL 9,⟨none,.st 4 (.t 9) (.t 64),none,[9,64]⟩,aC 10 65])
 (.seq (.draw [aC 66 7,aC 67 66,eY 68 10 67,⟨some 69,.bin (.int .neq) (.t 68) (.c (.int .i64 0)),(some (67,true)),[68,67]⟩,eY 70 69 67,pr 71 3 70,pr 72 9 70,⟨some 73,.call 27 [(.t 71),(.t 72)],(some (70,false)),[71,72,70]⟩,⟨some 74,.pick (.t 70) (.c (.bool true)) (.t 73),(some (67,true)),[70,73,67]⟩,eB 75 67 74,aC 76 75,eY 77 8 76,zw 78 77 76,eY 79 78 76,pr 80 3 79,pr 83 3 79,⟨some 81,.call 29 [(.t 80)],(some (79,false)),[80,79]⟩,⟨some 82,.call 29 [(.t 81)],(some (79,false)),[81,79]⟩,⟨some 84,.call 29 [(.t 83)],(some (79,false)),[83,79]⟩,⟨some 85,.call 28 [(.t 82),(.t 84)],(some (79,false)),[82,84,79]⟩,⟨some 86,.pick (.t 79) (.c (.bool true)) (.t 85),(some (76,true)),[79,85,76]⟩,eB 87 76 86,aC 6 87] [(5,[7]),(6,[7]),(14,[16]),(15,[16,17,18])])
 (.ret))))))))
theorem TM:cW Tryz.prog Tryz.f6.ntmps (Tryz.f6.body.getD .skip)=Eg:=by kernel_rfl
theorem TN:dZ Tryz.prog Tryz.f6.ntmps Tryz.f6.results.toList=[.t 6]:=by kernel_rfl
theorem TL {args:List V} {h:af} {K:V→af→Prop} (ao:Nat.ble args.length 88=true) (H:cU Tryz.prog Eg (aT.bg args) h fun e r ab=>e.ends∧∃ad,dM r ab [.t 6]=some ad∧K (oneOf ad) ab):b_ Tryz.prog 6 args h K:=
 fH follows eQ Tryz.func6 (c:=Tryz.f6.body.getD .skip) (by kernel_rfl) (by kernel_rfl) (by kernel_rfl) ao TM TN (by kernel_rfl) H
def DK:bV:=
 .seq (.aJ [gB 4])
 (.seq (.aJ [aC 5 0,aC 6 1,⟨some 7,.call 46 [(.t 5),(.t 6)],none,[5,6]⟩,aC 8 1,⟨some 9,.bin (.int .gtr) (.t 7) (.t 8),none,[7,8]⟩,aC 4 9])
 (.ret))
theorem Sb:cW Tryz.prog Tryz.f10.ntmps (Tryz.f10.body.getD .skip)=DK:=by kernel_rfl
theorem Sc:dZ Tryz.prog Tryz.f10.ntmps Tryz.f10.results.toList=[.t 4]:=by kernel_rfl
theorem Sa {args:List V} {h:af} {K:V→af→Prop} (ao:Nat.ble args.length 10=true) (H:cU Tryz.prog DK (aT.bg args) h fun e r ab=>e.ends∧∃ad,dM r ab [.t 4]=some ad∧K (oneOf ad) ab):b_ Tryz.prog 10 args h K:=
 fH follows eQ Tryz.func10 (c:=Tryz.f10.body.getD .skip) (by kernel_rfl) (by kernel_rfl) (by kernel_rfl) ao Sb Sc (by kernel_rfl) H
def S7:bV:=
 .seq (.seq (.aJ [aC 11 5,aC 12 0,mb 13 12,mO 14 11 13])
 (.cond (.t 14)
 (.skip)
 (.exit 0)))
 (.seq (.block 1 (.seq (.draw [aC 17 0,aC 18 5,qi 19 17 18,dG 20 19,aC 21 1,aC 22 5,qi 23 21 22,dG 24 23,⟨some 25,.call 25 [(.t 20),(.t 24)],none,[20,24]⟩,uP 26 25] [(3,[8]),(7,[8])])
 (.cond (.t 26)
 (.seq (.aJ [gB 4])
 (.ret))
 (.skip))))
 (.aJ [aC 15 5,hx 16 15,aC 5 16]))
def u7:bV:=
 .seq (.aJ [gB 4])
 (.seq (.seq (.aJ [aC 6 0,mb 7 6,aC 8 1,mb 9 8,⟨some 10,.bin (.int .neq) (.t 7) (.t 9),none,[7,9]⟩])
 (.cond (.t 10)
 (.seq (.aJ [gB 4])
 (.ret))
 (.skip)))
 (.seq (.seq (.aJ [jM 5])
 (.block 0 (.loop S7)))
 (.seq (.aJ [zx 4])
 (.ret))))
def D4:bV:=
 .seq (.aJ [aC 5 9])
 (.aJ [jL 6,⟨none,.st 4 (.t 6) (.t 10),none,[6,10]⟩])
def D5:bV:=
 .block 1 (.seq (.seq (.aJ [dG 11 6,⟨some 12,.call 57 [(.t 11)],none,[11]⟩,uP 13 12])
 (.cond (.t 13)
 (.seq (.aJ [⟨none,.st 1 (.t 2) (.c (.int .i64 2)),none,[2]⟩])
 (.ret))
 (.skip)))
 (.seq (.aJ [ch 14 3,hx 15 14,⟨none,.st 1 (.t 3) (.t 15),none,[3,15]⟩])
 (.aJ [ch 16 4,aC 17 5,⟨some 18,.dO [(.t 16),(.t 17)],none,[16,17]⟩,⟨none,.st 1 (.t 4) (.t 18),none,[4,18]⟩])))
def D3:bV:=
 .seq (.aJ [iu 1 0,uQ 2])
 (.seq (.aJ [uQ 3,uQ 4,⟨none,.st 1 (.t 3) (.c (.int .i64 0)),none,[3]⟩,⟨none,.st 1 (.t 4) (.c (.int .i64 0)),none,[4]⟩])
 (.seq (.seq (.aJ [dG 7 1,⟨some 8,.call 56 [(.t 7)],none,[7]⟩])
 (.block 0 (bV.range (.t 8) [9,10] 25 D4 D5)))
 (.seq (.seq (.aJ [ch 19 3,⟨some 20,.bin (.int .gtr) (.t 19) (.c (.int .i64 4096)),none,[19]⟩,aC 21 20,⟨some 22,.jy (.t 4),(some (21,false)),[4,21]⟩,⟨some 23,.bin (.int .gtr) (.t 22) (.c (.int .i64 200)),(some (21,false)),[22,21]⟩,kX 24 21 23])
 (.cond (.t 24)
 (.seq (.aJ [⟨none,.st 1 (.t 2) (.c (.int .i64 3)),none,[2]⟩])
 (.ret))
 (.skip)))
 (.seq (.aJ [⟨none,.st 1 (.t 2) (.c (.int .i64 0)),none,[2]⟩])
 (.ret)))))
theorem S9:cW Tryz.prog Tryz.f19.ntmps (Tryz.f19.body.getD .skip)=D3:=by kernel_rfl
theorem S':dZ Tryz.prog Tryz.f19.ntmps Tryz.f19.results.toList=[.bL 2]:=by kernel_rfl
theorem S8 {args:List V} {h:af} {K:V→af→Prop} (ao:Nat.ble args.length 25=true) (H:cU Tryz.prog D3 (aT.bg args) h fun e r ab=>e.ends∧∃ae,lX (r d').list ab=some ae∧∃ad,dM r ae [.bL 2]=some ad∧K (oneOf ad) ae):b_ Tryz.prog 19 args h K:=
 Ey follows eQ Tryz.func19 (c:=Tryz.f19.body.getD .skip) (by kernel_rfl) (by kernel_rfl) (by kernel_rfl) ao S9 S' H
def JM:bV:=
 .seq (.aJ [mO 16 15 14])
 (.seq (.cond (.t 16)
 (.skip)
 (.exit 0))
 (.seq (.block 1 (.seq (.aJ [⟨some 17,.fz 5 (.t 13) (.t 15),none,[13,15]⟩,⟨some 18,.ki 5 (.t 17),none,[17]⟩,⟨some 9,.new [(.int .i64 0),(.int .i64 0),(.int .i64 0),(.str []),.cq],none,[]⟩,⟨none,.st 5 (.t 9) (.t 18),none,[9,18]⟩])
 (.seq (.seq (.aJ [jN 19 9,ch 20 19,aC 21 7,⟨some 22,.bin (.int .leq) (.t 20) (.t 21),none,[20,21]⟩,aC 23 22,⟨some 24,.jR 0 (.t 9),(some (23,false)),[9,23]⟩,⟨some 25,.jy (.t 24),(some (23,false)),[24,23]⟩,⟨some 26,.bin (.int .gtr) (.t 25) (.c (.int .i64 1048575)),(some (23,false)),[25,23]⟩,kX 27 23 26,aC 28 27,⟨some 29,.jR 1 (.t 9),(some (28,false)),[9,28]⟩,pr 30 29 28,⟨some 31,.call 19 [(.t 30)],(some (28,false)),[30,28]⟩,CX 32 31 28,kX 33 28 32])
 (.cond (.t 33)
 (.seq (.aJ [zy 34,⟨none,.st 4 (.t 4) (.t 34),none,[4,34]⟩,⟨some 5,.gH (.c (.int .i64 2)),none,[]⟩])
 (.ret))
 (.skip)))
 (.seq (.aJ [jN 35 9,ch 36 35,aC 7 36])
 (.aJ [aC 37 6,jN 38 9,ch 39 38,eC 40 9,dG 41 40,⟨none,.lz .int (.t 37) (.t 39) (.t 41),none,[37,39,41]⟩])))))
 (.aJ [hx 42 15,aC 15 42])))
def D6:bV:=
 .seq (.aJ [iu 3 1,jL 4,jM 5])
 (.seq (.aJ [⟨some 12,.q5 none,none,[]⟩,aC 6 12])
 (.seq (.aJ [⟨some 7,.gH (.c (.int .i64 (-1))),none,[]⟩])
 (.seq (.seq (.aJ [aC 13 0,mb 14 13,jM 15])
 (.block 0 (.loop JM)))
 (.seq (.seq (.aJ [dG 43 3,⟨some 44,.call 19 [(.t 43)],none,[43]⟩,zz 45 44])
 (.cond (.t 45)
 (.seq (.aJ [zy 46,⟨none,.st 4 (.t 4) (.t 46),none,[4,46]⟩,⟨some 5,.gH (.c (.int .i64 2)),none,[]⟩])
 (.ret))
 (.skip)))
 (.seq (.aJ [uQ 10,⟨none,.st 1 (.t 10) (.c (.int .i64 4096)),none,[10]⟩])
 (.seq (.aJ [aC 47 6,dG 48 3,CY 49 47 48 10,jL 11,⟨none,.st 4 (.t 11) (.t 49),none,[11,49]⟩])
 (.seq (.seq (.aJ [ch 50 10,⟨some 51,.bin (.int .lss) (.t 50) (.c (.int .i64 0)),none,[50]⟩,aC 52 51,pr 53 11 52,⟨some 54,.call 19 [(.t 53)],(some (52,false)),[53,52]⟩,CX 55 54 52,kX 56 52 55])
 (.cond (.t 56)
 (.seq (.aJ [zy 57,⟨none,.st 4 (.t 4) (.t 57),none,[4,57]⟩,⟨some 5,.gH (.c (.int .i64 3)),none,[]⟩])
 (.ret))
 (.skip)))
 (.seq (.aJ [dG 58 11,⟨none,.st 4 (.t 4) (.t 58),none,[4,58]⟩,jM 5])
 (.ret)))))))))
theorem Tb:cW Tryz.prog Tryz.f23.ntmps (Tryz.f23.body.getD .skip)=D6:=by kernel_rfl
theorem Tc:dZ Tryz.prog Tryz.f23.ntmps Tryz.f23.results.toList=[.jm 4 4,.t 5]:=by kernel_rfl
theorem Ta {args:List V} {h:af} {K:V→af→Prop} (ao:Nat.ble args.length 59=true) (H:cU Tryz.prog D6 (aT.bg args) h fun e r ab=>e.ends∧∃ad,dM r ab [.jm 4 4,.t 5]=some ad∧K (oneOf ad) ab):b_ Tryz.prog 23 args h K:=
 fH follows eQ Tryz.func23 (c:=Tryz.f23.body.getD .skip) (by kernel_rfl) (by kernel_rfl) (by kernel_rfl) ao Tb Tc (by kernel_rfl) H
def D7:bV:=
 .seq (.aJ [iu 2 0,iu 3 1,gB 4])
 (.seq (.seq (.aJ [dG 7 2,⟨some 8,.call 19 [(.t 7)],none,[7]⟩,zz 9 8,aC 10 9,pr 11 3 10,⟨some 12,.call 19 [(.t 11)],(some (10,false)),[11,10]⟩,CX 13 12 10,kX 14 10 13])
 (.cond (.t 14)
 (.seq (.aJ [gB 4])
 (.ret))
 (.skip)))
 (.seq (.aJ [⟨some 15,.q5 none,none,[]⟩,⟨some 5,.new [.kk],none,[]⟩,⟨none,.st 1 (.t 5) (.t 15),none,[5,15]⟩])
 (.seq (.aJ [⟨some 6,.new [.lp],none,[]⟩])
 (.seq (.aJ [⟨some 16,.fn 65 [(.t 5),(.t 6)],none,[5,6]⟩,⟨none,.st 1 (.t 6) (.t 16),none,[6,16]⟩])
 (.seq (.aJ [ch 17 6,dG 18 2,dG 19 3,zA 20 17 18 19,aC 4 20])
 (.ret))))))
theorem Te:cW Tryz.prog Tryz.f27.ntmps (Tryz.f27.body.getD .skip)=D7:=by kernel_rfl
theorem Tf:dZ Tryz.prog Tryz.f27.ntmps Tryz.f27.results.toList=[.t 4]:=by kernel_rfl
theorem Td {args:List V} {h:af} {K:V→af→Prop} (ao:Nat.ble args.length 21=true) (H:cU Tryz.prog D7 (aT.bg args) h fun e r ab=>e.ends∧∃ad,dM r ab [.t 4]=some ad∧K (oneOf ad) ab):b_ Tryz.prog 27 args h K:=
 fH follows eQ Tryz.func27 (c:=Tryz.f27.body.getD .skip) (by kernel_rfl) (by kernel_rfl) (by kernel_rfl) ao Te Tf (by kernel_rfl) H
def D8:bV:=
 .seq (.aJ [iu 2 0,iu 3 1,gB 4])
 (.seq (.aJ [jN 5 2,ch 6 5,jN 7 3,ch 8 7,⟨some 9,.bin (.int .eql) (.t 6) (.t 8),none,[6,8]⟩,aC 10 9,sU 11 2 10,gX 12 11 10,sU 13 3 10,gX 14 13 10,w8 15 12 14 10,eB 16 10 15,aC 17 16,uR 18 2 17,gX 19 18 17,uR 20 3 17,gX 21 20 17,zB 22 19 21 17,eB 23 17 22,aC 24 23,rB 25 2 24,gX 26 25 24,rB 27 3 24,gX 28 27 24,⟨some 29,.call 66 [(.t 26),(.t 28),(.c (.func 28 []))],(some (24,true)),[26,28,24]⟩,eB 30 24 29,aC 4 30])
 (.ret))
theorem Th:cW Tryz.prog Tryz.f28.ntmps (Tryz.f28.body.getD .skip)=D8:=by kernel_rfl
theorem Ti:dZ Tryz.prog Tryz.f28.ntmps Tryz.f28.results.toList=[.t 4]:=by kernel_rfl
theorem Tg {args:List V} {h:af} {K:V→af→Prop} (ao:Nat.ble args.length 31=true) (H:cU Tryz.prog D8 (aT.bg args) h fun e r ab=>e.ends∧∃ad,dM r ab [.t 4]=some ad∧K (oneOf ad) ab):b_ Tryz.prog 28 args h K:=
 fH follows eQ Tryz.func28 (c:=Tryz.f28.body.getD .skip) (by kernel_rfl) (by kernel_rfl) (by kernel_rfl) ao Th Ti (by kernel_rfl) H
def JN:bV:=
 .seq (.aJ [mO 16 15 14])
 (.seq (.cond (.t 16)
 (.skip)
 (.exit 0))
 (.seq (.block 1 (.seq (.aJ [aC 17 15,⟨some 18,.fz 1 (.t 13) (.t 15),none,[13,15]⟩,ch 19 18,aC 4 17,aC 5 19])
 (.aJ [aC 20 3,aC 21 5,aC 22 4,zv 23 22,⟨none,.lz .int (.t 20) (.t 21) (.t 23),none,[20,21,23]⟩])))
 (.aJ [hx 24 15,aC 15 24])))
def D9:bV:=
 .seq (.aJ [iu 1 0,jL 2])
 (.seq (.seq (.aJ [dG 7 1,⟨some 8,.call 19 [(.t 7)],none,[7]⟩,zz 9 8])
 (.cond (.t 9)
 (.seq (.aJ [zy 10,⟨none,.st 4 (.t 2) (.t 10),none,[2,10]⟩])
 (.ret))
 (.skip)))
 (.seq (.aJ [⟨some 11,.q5 none,none,[]⟩,aC 3 11])
 (.seq (.seq (.aJ [dG 12 1,⟨some 13,.call 34 [(.t 12)],none,[12]⟩,mb 14 13,jM 15])
 (.block 0 (.loop JN)))
 (.seq (.aJ [uQ 6,⟨none,.st 1 (.t 6) (.c (.int .i64 4096)),none,[6]⟩])
 (.seq (.aJ [aC 25 3,dG 26 1,CY 27 25 26 6,⟨none,.st 4 (.t 2) (.t 27),none,[2,27]⟩])
 (.ret))))))
theorem Tk:cW Tryz.prog Tryz.f29.ntmps (Tryz.f29.body.getD .skip)=D9:=by kernel_rfl
theorem Tl:dZ Tryz.prog Tryz.f29.ntmps Tryz.f29.results.toList=[.jm 2 4]:=by kernel_rfl
theorem Tj {args:List V} {h:af} {K:V→af→Prop} (ao:Nat.ble args.length 28=true) (H:cU Tryz.prog D9 (aT.bg args) h fun e r ab=>e.ends∧∃ad,dM r ab [.jm 2 4]=some ad∧K (oneOf ad) ab):b_ Tryz.prog 29 args h K:=
 fH follows eQ Tryz.func29 (c:=Tryz.f29.body.getD .skip) (by kernel_rfl) (by kernel_rfl) (by kernel_rfl) ao Tk Tl (by kernel_rfl) H
def D_:bV:=
 .skip
def Ea:bV:=
 .block 1 (.aJ [ch 8 3,hx 9 8,⟨none,.st 1 (.t 3) (.t 9),none,[3,9]⟩])
def D':bV:=
 .seq (.aJ [iu 1 0,jM 2])
 (.seq (.aJ [uQ 3,⟨none,.st 1 (.t 3) (.c (.int .i64 0)),none,[3]⟩])
 (.seq (.seq (.aJ [dG 4 1,⟨some 5,.call 56 [(.t 4)],none,[4]⟩])
 (.block 0 (bV.range (.t 5) [6,7] 11 D_ Ea)))
 (.seq (.aJ [ch 10 3,aC 2 10])
 (.ret))))
theorem Tn:cW Tryz.prog Tryz.f30.ntmps (Tryz.f30.body.getD .skip)=D':=by kernel_rfl
theorem To:dZ Tryz.prog Tryz.f30.ntmps Tryz.f30.results.toList=[.t 2]:=by kernel_rfl
theorem Tm {args:List V} {h:af} {K:V→af→Prop} (ao:Nat.ble args.length 11=true) (H:cU Tryz.prog D' (aT.bg args) h fun e r ab=>e.ends∧∃ae,lX (r d').list ab=some ae∧∃ad,dM r ae [.t 2]=some ad∧K (oneOf ad) ae):b_ Tryz.prog 30 args h K:=
 Ey follows eQ Tryz.func30 (c:=Tryz.f30.body.getD .skip) (by kernel_rfl) (by kernel_rfl) (by kernel_rfl) ao Tn To H
def Eb:bV:=
 .aJ [jL 6,⟨none,.st 4 (.t 6) (.t 11),none,[6,11]⟩]
def Ec:bV:=
 .block 1 (.seq (.aJ [jN 12 6,ch 13 12,zC 14 13,aC 15 14,gX 16 4 15,sU 17 6 15,gX 18 17 15,⟨some 19,.look .int (.bool false) false (.t 16) (.t 18),(some (15,true)),[16,18,15]⟩,zw 20 19 15,eB 21 15 20])
 (.cond (.t 21)
 (.seq (.aJ [ch 22 4,eC 23 6,ch 24 23,⟨none,.lz .int (.t 22) (.t 24) (.c (.bool true)),none,[22,24]⟩])
 (.aJ [ch 25 3,eC 26 6,ch 27 26,⟨some 28,.kA 1 1 [(.int .i64 0)] [(0,1,(.t 27))],none,[27]⟩,⟨some 29,.app 1 (.t 25) (.t 28),none,[25,28]⟩,⟨none,.st 1 (.t 3) (.t 29),none,[3,29]⟩]))
 (.skip)))
def c34:bV:=
 .seq (.aJ [iu 1 0,pq 2])
 (.seq (.aJ [⟨some 3,.new [.cq],none,[]⟩])
 (.seq (.aJ [⟨some 7,.q5 none,none,[]⟩,⟨some 4,.new [.kk],none,[]⟩,⟨none,.st 1 (.t 4) (.t 7),none,[4,7]⟩])
 (.seq (.seq (.aJ [dG 8 1,⟨some 9,.call 56 [(.t 8)],none,[8]⟩])
 (.block 0 (bV.range (.t 9) [10,11] 31 Eb Ec)))
 (.seq (.aJ [ch 30 3,aC 2 30])
 (.ret)))))
theorem Tq:cW Tryz.prog Tryz.f34.ntmps (Tryz.f34.body.getD .skip)=c34:=by kernel_rfl
theorem Tr:dZ Tryz.prog Tryz.f34.ntmps Tryz.f34.results.toList=[.t 2]:=by kernel_rfl
theorem Tp {args:List V} {h:af} {K:V→af→Prop} (ao:Nat.ble args.length 31=true) (H:cU Tryz.prog c34 (aT.bg args) h fun e r ab=>e.ends∧∃ae,lX (r d').list ab=some ae∧∃ad,dM r ae [.t 2]=some ad∧K (oneOf ad) ae):b_ Tryz.prog 34 args h K:=
 Ey follows eQ Tryz.func34 (c:=Tryz.f34.body.getD .skip) (by kernel_rfl) (by kernel_rfl) (by kernel_rfl) ao Tq Tr H
def JO:bV:=
 .seq (.seq (.aJ [aC 7 6,aC 8 0,mb 9 8,mO 10 7 9,aC 11 10,eY 12 5 11,eY 13 1 11,⟨some 14,.bin (.int .leq) (.t 12) (.t 13),(some (11,true)),[12,13,11]⟩,eB 15 11 14])
 (.cond (.t 15)
 (.skip)
 (.exit 0)))
 (.seq (.block 1 (.seq (.aJ [aC 18 5,hx 19 18,aC 20 0,aC 21 6,qi 22 20 21,mc 23 22,ch 24 23,mP 25 24,⟨some 26,.bin (.int .quo) (.t 25) (.c (.int .i64 100)),none,[25]⟩,⟨some 27,.bin (.int .add) (.t 19) (.t 26),none,[19,26]⟩,aC 5 27])
 (.aJ [aC 28 5,aC 29 0,aC 30 6,qi 31 29 30,ps 32 31,ch 33 32,aC 34 1,aC 35 5,⟨some 36,.bin (.int .sub) (.t 34) (.t 35),none,[34,35]⟩,⟨some 37,.call 46 [(.t 33),(.t 36)],none,[33,36]⟩,⟨some 38,.bin (.int .add) (.t 28) (.t 37),none,[28,37]⟩,aC 5 38])))
 (.aJ [aC 16 6,hx 17 16,aC 6 17]))
def Ed:bV:=
 .seq (.aJ [jM 4])
 (.seq (.aJ [jM 5])
 (.seq (.seq (.aJ [jM 6])
 (.block 0 (.loop JO)))
 (.seq (.aJ [aC 39 5,aC 4 39])
 (.ret))))
theorem Tt:cW Tryz.prog Tryz.f46.ntmps (Tryz.f46.body.getD .skip)=Ed:=by kernel_rfl
theorem Tu:dZ Tryz.prog Tryz.f46.ntmps Tryz.f46.results.toList=[.t 4]:=by kernel_rfl
theorem Ts {args:List V} {h:af} {K:V→af→Prop} (ao:Nat.ble args.length 40=true) (H:cU Tryz.prog Ed (aT.bg args) h fun e r ab=>e.ends∧∃ad,dM r ab [.t 4]=some ad∧K (oneOf ad) ab):b_ Tryz.prog 46 args h K:=
 fH follows eQ Tryz.func46 (c:=Tryz.f46.body.getD .skip) (by kernel_rfl) (by kernel_rfl) (by kernel_rfl) ao Tt Tu (by kernel_rfl) H
def Ee:bV:=
 .seq (.aJ [iu 1 0,⟨some 2,.gH (.c .lp),none,[]⟩])
 (.seq (.aJ [⟨some 3,.fn 86 [(.t 1)],none,[1]⟩,aC 2 3])
 (.ret))
theorem Ty:cW Tryz.prog Tryz.f56.ntmps (Tryz.f56.body.getD .skip)=Ee:=by kernel_rfl
theorem Tz:dZ Tryz.prog Tryz.f56.ntmps Tryz.f56.results.toList=[.t 2]:=by kernel_rfl
theorem Tx {args:List V} {h:af} {K:V→af→Prop} (ao:Nat.ble args.length 4=true) (H:cU Tryz.prog Ee (aT.bg args) h fun e r ab=>e.ends∧∃ad,dM r ab [.t 2]=some ad∧K (oneOf ad) ab):b_ Tryz.prog 56 args h K:=
 fH follows eQ Tryz.func56 (c:=Tryz.f56.body.getD .skip) (by kernel_rfl) (by kernel_rfl) (by kernel_rfl) ao Ty Tz (by kernel_rfl) H
def Ef:bV:=
 .seq (.aJ [iu 1 0,gB 2])
 (.seq (.seq (.aJ [jN 3 1,ch 4 3])
 (.block 0 (.seq (.aJ [zC 6 4,aC 5 6])
 (.cond (.t 5)
 (.seq (.aJ [eC 7 1,ch 8 7,CZ 9 8,aC 10 9,sU 11 1 10,gX 12 11 10,⟨some 13,.bin (.int .leq) (.t 12) (.c (.int .i64 1048575)),(some (10,true)),[12,10]⟩,eB 14 10 13,aC 15 14,uR 16 1 15,gX 17 16 15,⟨some 18,.bin (.str .eql) (.t 17) (.c (.str [])),(some (15,true)),[17,15]⟩,eB 19 15 18,aC 20 19,rB 21 1 20,gX 22 21 20,zD 23 22 20,⟨some 24,.bin (.int .eql) (.t 23) (.c (.int .i64 0)),(some (20,true)),[23,20]⟩,eB 25 20 24,aC 2 25])
 (.ret))
 (.seq (.aJ [⟨some 27,.bin (.int .eql) (.t 4) (.c (.int .i64 2)),none,[4]⟩,aC 26 27])
 (.cond (.t 26)
 (.seq (.seq (.aJ [mc 28 1,ch 29 28,⟨some 30,.bin (.str .eql) (.t 29) (.c (.str [45,62])),none,[29]⟩,aC 31 30,⟨some 32,.jR 2 (.t 1),(some (31,false)),[1,31]⟩,⟨some 33,.jy (.t 32),(some (31,false)),[32,31]⟩,⟨some 34,.bin (.str .eql) (.t 33) (.c (.str [42])),(some (31,false)),[33,31]⟩,kX 35 31 34])
 (.cond (.t 35)
 (.seq (.aJ [eC 36 1,ch 37 36,uO 38 37,aC 39 38,rB 40 1 39,gX 41 40 39,zD 42 41 39,⟨some 43,.bin (.int .eql) (.t 42) (.c (.int .i64 2)),(some (39,true)),[42,39]⟩,eB 44 39 43,aC 2 44])
 (.ret))
 (.skip)))
 (.seq (.aJ [eC 45 1,ch 46 45,uO 47 46,aC 48 47,rB 49 1 48,gX 50 49 48,zD 51 50 48,⟨some 52,.bin (.int .leq) (.t 51) (.c (.int .i64 64)),(some (48,true)),[51,48]⟩,eB 53 48 52,aC 54 53,uR 55 1 54,gX 56 55 54,⟨some 57,.call 88 [(.t 56)],(some (54,true)),[56,54]⟩,eB 58 54 57,aC 2 58])
 (.ret)))
 (.skip)))))))
 (.seq (.aJ [gB 2])
 (.ret)))
theorem TB:cW Tryz.prog Tryz.f57.ntmps (Tryz.f57.body.getD .skip)=Ef:=by kernel_rfl
theorem TC:dZ Tryz.prog Tryz.f57.ntmps Tryz.f57.results.toList=[.t 2]:=by kernel_rfl
theorem TA {args:List V} {h:af} {K:V→af→Prop} (ao:Nat.ble args.length 59=true) (H:cU Tryz.prog Ef (aT.bg args) h fun e r ab=>e.ends∧∃ad,dM r ab [.t 2]=some ad∧K (oneOf ad) ab):b_ Tryz.prog 57 args h K:=
 fH follows eQ Tryz.func57 (c:=Tryz.f57.body.getD .skip) (by kernel_rfl) (by kernel_rfl) (by kernel_rfl) ao TB TC (by kernel_rfl) H
def Ei:bV:=
 .seq (.aJ [mO 45 44 43])
 (.seq (.cond (.t 45)
 (.skip)
 (.exit 0))
 (.seq (.block 1 (.seq (.aJ [qi 46 42 44,dG 47 46,jL 11,⟨none,.st 4 (.t 11) (.t 47),none,[11,47]⟩])
 (.seq (.seq (.aJ [aC 48 2,dh 49 48,ch 50 49,⟨some 51,.bin (.int .lss) (.t 50) (.c (.int .i64 0)),none,[50]⟩])
 (.cond (.t 51)
 (.exit 0)
 (.skip)))
 (.draw [ps 52 4,ch 53 52,aC 54 0,dG 55 11,aC 56 2,CY 57 54 55 56,sT 58 57,w9 59 53 58,ps 60 4,⟨none,.st 1 (.t 60) (.t 59),none,[60,59]⟩] [(1,[5,7]),(3,[5])]))))
 (.aJ [hx 61 44,aC 44 61])))
def Eh:bV:=
 .seq (.aJ [iu 4 1,jL 6])
 (.seq (.seq (.aJ [aC 13 0,eC 14 4,ch 15 14,IX 16 13 15,aC 12 16,l_ 17 12,ma 18 12,jL 7,⟨none,.st 4 (.t 7) (.t 17),none,[7,17]⟩,aC 8 18])
 (.seq (.aJ [aC 19 8,aC 20 19,w' 21 4 20,gX 22 21 20,⟨some 23,.bin (.int .eql) (.t 22) (.c (.int .i64 1)),(some (20,true)),[22,20]⟩,eB 24 20 23])
 (.cond (.t 24)
 (.seq (.draw [aC 25 2,dh 26 25,ch 27 26,dG 28 7,⟨some 29,.call 30 [(.t 28)],none,[28]⟩,⟨some 30,.bin (.int .sub) (.t 27) (.t 29),none,[27,29]⟩,dh 31 25,⟨none,.st 1 (.t 31) (.t 30),none,[31,30]⟩] [(2,[4,7]),(3,[4])])
 (.seq (.aJ [dG 32 7,⟨some 33,.call 90 [(.t 32)],none,[32]⟩,⟨none,.st 4 (.t 6) (.t 33),none,[6,33]⟩])
 (.ret)))
 (.skip))))
 (.seq (.aJ [aC 34 2,dh 35 34,ch 36 35,⟨some 37,.bin (.int .sub) (.t 36) (.c (.int .i64 1)),none,[36]⟩,dh 38 34,⟨none,.st 1 (.t 38) (.t 37),none,[38,37]⟩])
 (.seq (.aJ [ps 39 4,ch 40 39,aC 9 40])
 (.seq (.aJ [ps 41 4,⟨none,.st 1 (.t 41) (.c .cq),none,[41]⟩])
 (.seq (.seq (.aJ [aC 42 9,mb 43 42,jM 44])
 (.block 0 (.loop Ei)))
 (.seq (.aJ [dG 62 4,⟨none,.st 4 (.t 6) (.t 62),none,[6,62]⟩])
 (.ret)))))))
theorem TE:cW Tryz.prog Tryz.f60.ntmps (Tryz.f60.body.getD .skip)=Eh:=by kernel_rfl
theorem TF:dZ Tryz.prog Tryz.f60.ntmps Tryz.f60.results.toList=[.jm 6 4]:=by kernel_rfl
theorem TD {args:List V} {h:af} {K:V→af→Prop} (ao:Nat.ble args.length 63=true) (H:cU Tryz.prog Eh (aT.bg args) h fun e r ab=>e.ends∧∃ad,dM r ab [.jm 6 4]=some ad∧K (oneOf ad) ab):b_ Tryz.prog 60 args h K:=
 fH follows eQ Tryz.func60 (c:=Tryz.f60.body.getD .skip) (by kernel_rfl) (by kernel_rfl) (by kernel_rfl) ao TE TF (by kernel_rfl) H
def Ej:bV:=
 .seq (.aJ [iu 4 0,iu 5 1,gB 6])
 (.seq (.seq (.aJ [jN 9 4,ch 10 9,zC 11 10])
 (.cond (.t 11)
 (.seq (.aJ [ch 13 2,eC 14 4,ch 15 14,IX 16 13 15,aC 12 16,l_ 17 12,ma 18 12,jL 7,⟨none,.st 4 (.t 7) (.t 17),none,[7,17]⟩,aC 8 18])
 (.seq (.seq (.aJ [aC 19 8,uP 20 19])
 (.cond (.t 20)
 (.seq (.aJ [ch 21 2,eC 22 4,ch 23 22,dG 24 5,⟨none,.lz .int (.t 21) (.t 23) (.t 24),none,[21,23,24]⟩])
 (.seq (.aJ [zx 6])
 (.ret)))
 (.skip)))
 (.seq (.aJ [dG 25 7,dG 26 5,⟨some 27,.call 28 [(.t 25),(.t 26)],none,[25,26]⟩,aC 6 27])
 (.ret))))
 (.skip)))
 (.seq (.aJ [jN 28 5,ch 29 28,jN 30 4,ch 31 30,⟨some 32,.bin (.int .eql) (.t 29) (.t 31),none,[29,31]⟩,aC 33 32,uR 34 4 33,gX 35 34 33,uR 36 5 33,gX 37 36 33,zB 38 35 37 33,eB 39 33 38,aC 40 39,rB 41 4 40,gX 42 41 40,rB 43 5 40,gX 44 43 40,gX 45 3 40,⟨some 46,.call 66 [(.t 42),(.t 44),(.t 45)],(some (40,true)),[42,44,45,40]⟩,eB 47 40 46,aC 6 47])
 (.ret)))
theorem TH:cW Tryz.prog Tryz.f65.ntmps (Tryz.f65.body.getD .skip)=Ej:=by kernel_rfl
theorem TI:dZ Tryz.prog Tryz.f65.ntmps Tryz.f65.results.toList=[.t 6]:=by kernel_rfl
theorem TG {args:List V} {h:af} {K:V→af→Prop} (ao:Nat.ble args.length 48=true) (H:cU Tryz.prog Ej (aT.bg args) h fun e r ab=>e.ends∧∃ad,dM r ab [.t 6]=some ad∧K (oneOf ad) ab):b_ Tryz.prog 65 args h K:=
 fH follows eQ Tryz.func65 (c:=Tryz.f65.body.getD .skip) (by kernel_rfl) (by kernel_rfl) (by kernel_rfl) ao TH TI (by kernel_rfl) H
def xz:bV:=
 .seq (.aJ [mO 18 17 16])
 (.seq (.cond (.t 18)
 (.skip)
 (.exit 0))
 (.seq (.block 1 (.seq (.aJ [aC 19 17,qi 20 15 17,dG 21 20,jL 8,aC 7 19,⟨none,.st 4 (.t 8) (.t 21),none,[8,21]⟩])
 (.seq (.aJ [aC 22 1,aC 23 7,qi 24 22 23,dG 25 24,jL 9,⟨none,.st 4 (.t 9) (.t 25),none,[9,25]⟩])
 (.seq (.aJ [aC 26 2,dG 27 8,dG 28 9,zA 29 26 27 28,uP 30 29])
 (.cond (.t 30)
 (.seq (.aJ [gB 6])
 (.ret))
 (.skip))))))
 (.aJ [hx 31 17,aC 17 31])))
def u9:bV:=
 .seq (.aJ [gB 6])
 (.seq (.seq (.aJ [aC 10 0,mb 11 10,aC 12 1,mb 13 12,⟨some 14,.bin (.int .neq) (.t 11) (.t 13),none,[11,13]⟩])
 (.cond (.t 14)
 (.seq (.aJ [gB 6])
 (.ret))
 (.skip)))
 (.seq (.seq (.aJ [aC 15 0,mb 16 15,jM 17])
 (.block 0 (.loop xz)))
 (.seq (.aJ [zx 6])
 (.ret))))
theorem TJ:cW Tryz.prog Tryz.f66.ntmps (Tryz.f66.body.getD .skip)=u9:=by kernel_rfl
theorem TK:dZ Tryz.prog Tryz.f66.ntmps Tryz.f66.results.toList=[.t 6]:=by kernel_rfl
theorem z_ {args:List V} {h:af} {K:V→af→Prop} (ao:Nat.ble args.length 32=true) (H:cU Tryz.prog u9 (aT.bg args) h fun e r ab=>e.ends∧∃ad,dM r ab [.t 6]=some ad∧K (oneOf ad) ab):b_ Tryz.prog 66 args h K:=
 fH follows eQ Tryz.func66 (c:=Tryz.f66.body.getD .skip) (by kernel_rfl) (by kernel_rfl) (by kernel_rfl) ao TJ TK (by kernel_rfl) H
def Ek:bV:=
 .seq (.aJ [iu 2 0])
 (.seq (.aJ [⟨some 3,.new [.lp],none,[]⟩])
 (.seq (.aJ [⟨some 4,.fn 87 [(.t 2),(.t 3)],none,[2,3]⟩,⟨none,.st 1 (.t 3) (.t 4),none,[3,4]⟩])
 (.aJ [ch 5 3,dG 6 1,⟨some 7,.oG (.t 5) [(.c (.int .i64 1)),(.t 6)],none,[5,6]⟩])))
theorem TP:cW Tryz.prog Tryz.f86.ntmps (Tryz.f86.body.getD .skip)=Ek:=by kernel_rfl
theorem TQ:dZ Tryz.prog Tryz.f86.ntmps Tryz.f86.results.toList=[]:=by kernel_rfl
theorem TO {args:List V} {h:af} {K:V→af→Prop} (ao:Nat.ble args.length 8=true) (H:cU Tryz.prog Ek (aT.bg args) h fun e r ab=>e.ends∧∃ad,dM r ab []=some ad∧K (oneOf ad) ab):b_ Tryz.prog 86 args h K:=
 fH follows eQ Tryz.func86 (c:=Tryz.f86.body.getD .skip) (by kernel_rfl) (by kernel_rfl) (by kernel_rfl) ao TP TQ (by kernel_rfl) H
def JP:bV:=
 .seq (.aJ [mO 18 17 16])
 (.seq (.cond (.t 18)
 (.skip)
 (.exit 0))
 (.seq (.block 1 (.seq (.aJ [qi 19 15 17,dG 20 19,jL 8,⟨none,.st 4 (.t 8) (.t 20),none,[8,20]⟩])
 (.seq (.aJ [ch 21 3,aC 22 0,hx 23 22,dG 24 8,zA 25 21 23 24,uP 26 25])
 (.cond (.t 26)
 (.seq (.aJ [gB 6])
 (.ret))
 (.skip)))))
 (.aJ [hx 27 17,aC 17 27])))
def El:bV:=
 .seq (.aJ [iu 5 1,gB 6])
 (.seq (.seq (.aJ [ch 9 2,aC 10 0,dG 11 5,zA 12 9 10 11,uP 13 12])
 (.cond (.t 13)
 (.seq (.aJ [gB 6])
 (.ret))
 (.skip)))
 (.seq (.seq (.aJ [ps 14 5,ch 15 14,mb 16 15,jM 17])
 (.block 0 (.loop JP)))
 (.seq (.aJ [zx 6])
 (.ret))))
theorem TS:cW Tryz.prog Tryz.f87.ntmps (Tryz.f87.body.getD .skip)=El:=by kernel_rfl
theorem TT:dZ Tryz.prog Tryz.f87.ntmps Tryz.f87.results.toList=[.t 6]:=by kernel_rfl
theorem TR {args:List V} {h:af} {K:V→af→Prop} (ao:Nat.ble args.length 28=true) (H:cU Tryz.prog El (aT.bg args) h fun e r ab=>e.ends∧∃ad,dM r ab [.t 6]=some ad∧K (oneOf ad) ab):b_ Tryz.prog 87 args h K:=
 fH follows eQ Tryz.func87 (c:=Tryz.f87.body.getD .skip) (by kernel_rfl) (by kernel_rfl) (by kernel_rfl) ao TS TT (by kernel_rfl) H
def Em:bV:=
 .seq (.aJ [gB 2])
 (.seq (.aJ [aC 6 0,⟨some 7,.call 104 [(.t 6)],none,[6]⟩,aC 5 7,l_ 8 5,ma 9 5,⟨some 4,.new [(.int .i64 0),(.int .i64 0)],none,[]⟩,aC 3 8,⟨none,.st 2 (.t 4) (.t 9),none,[4,9]⟩])
 (.seq (.aJ [jN 10 4,ch 11 10,uO 12 11,aC 13 12,eY 14 3 13,zD 15 14 13,⟨some 16,.bin (.int .eql) (.t 15) (.c (.int .i64 1)),(some (13,true)),[15,13]⟩,eB 17 13 16,aC 18 17,eY 19 3 18,⟨some 20,.fz 4 (.t 19) (.c (.int .i64 0)),(some (18,true)),[19,18]⟩,w' 21 20 18,gX 22 21 18,⟨some 23,.bin (.int .eql) (.t 22) (.c (.int .i64 3)),(some (18,true)),[22,18]⟩,eB 24 18 23,aC 25 24,eY 26 3 25,⟨some 27,.fz 4 (.t 26) (.c (.int .i64 0)),(some (25,true)),[26,25]⟩,rB 28 27 25,gX 29 28 25,eY 30 0 25,zB 31 29 30 25,eB 32 25 31,aC 2 32])
 (.ret)))
theorem TV:cW Tryz.prog Tryz.f88.ntmps (Tryz.f88.body.getD .skip)=Em:=by kernel_rfl
theorem TW:dZ Tryz.prog Tryz.f88.ntmps Tryz.f88.results.toList=[.t 2]:=by kernel_rfl
theorem TU {args:List V} {h:af} {K:V→af→Prop} (ao:Nat.ble args.length 33=true) (H:cU Tryz.prog Em (aT.bg args) h fun e r ab=>e.ends∧∃ad,dM r ab [.t 2]=some ad∧K (oneOf ad) ab):b_ Tryz.prog 88 args h K:=
 fH follows eQ Tryz.func88 (c:=Tryz.f88.body.getD .skip) (by kernel_rfl) (by kernel_rfl) (by kernel_rfl) ao TV TW (by kernel_rfl) H
def JQ:bV:=
 .seq (.aJ [mO 12 11 10])
 (.seq (.cond (.t 12)
 (.skip)
 (.exit 0))
 (.seq (.block 1 (.seq (.aJ [qi 13 9 11,dG 14 13,jL 5,⟨none,.st 4 (.t 5) (.t 14),none,[5,14]⟩])
 (.draw [ps 15 1,ch 16 15,dG 17 5,⟨some 18,.call 90 [(.t 17)],none,[17]⟩,sT 19 18,w9 20 16 19,ps 21 1,⟨none,.st 1 (.t 21) (.t 20),none,[21,20]⟩] [(1,[3,5]),(2,[3])])))
 (.aJ [hx 22 11,aC 11 22])))
def En:bV:=
 .seq (.aJ [iu 1 0,jL 2])
 (.seq (.aJ [ps 6 1,ch 7 6,aC 3 7])
 (.seq (.aJ [ps 8 1,⟨none,.st 1 (.t 8) (.c .cq),none,[8]⟩])
 (.seq (.seq (.aJ [aC 9 3,mb 10 9,jM 11])
 (.block 0 (.loop JQ)))
 (.seq (.aJ [dG 23 1,⟨none,.st 4 (.t 2) (.t 23),none,[2,23]⟩])
 (.ret)))))
theorem TY:cW Tryz.prog Tryz.f90.ntmps (Tryz.f90.body.getD .skip)=En:=by kernel_rfl
theorem TZ:dZ Tryz.prog Tryz.f90.ntmps Tryz.f90.results.toList=[.jm 2 4]:=by kernel_rfl
theorem TX {args:List V} {h:af} {K:V→af→Prop} (ao:Nat.ble args.length 24=true) (H:cU Tryz.prog En (aT.bg args) h fun e r ab=>e.ends∧∃ad,dM r ab [.jm 2 4]=some ad∧K (oneOf ad) ab):b_ Tryz.prog 90 args h K:=
 fH follows eQ Tryz.func90 (c:=Tryz.f90.body.getD .skip) (by kernel_rfl) (by kernel_rfl) (by kernel_rfl) ao TY TZ (by kernel_rfl) H
def JG:bV:=
 .block 1 (.seq (.aJ [aC 24 5,dh 25 24,eC 26 25,ch 27 26,aC 7 27])
 (.seq (.block 2 (.seq (.aJ [aC 37 7,aC 38 0,mP 39 38,zE 40 37 39,aC 36 40])
 (.cond (.t 36)
 (.exit 0)
 (.seq (.aJ [aC 42 0,aC 43 7,⟨some 44,.lg (.t 42) (.t 43),none,[42,43]⟩,⟨some 45,.call 124 [(.c (.str [9,10,13,32])),(.t 44)],none,[44]⟩,CZ 46 45,aC 41 46])
 (.cond (.t 41)
 (.aJ [aC 47 5,dh 48 47,eC 49 48,ch 50 49,hx 51 50,dh 52 47,eC 53 52,⟨none,.st 1 (.t 53) (.t 51),none,[53,51]⟩])
 (.seq (.aJ [aC 55 5,⟨some 56,.call 125 [(.t 55),(.c (.str [40,42]))],none,[55]⟩,aC 54 56])
 (.cond (.t 54)
 (.aJ [aC 57 5,⟨some 58,.call 126 [(.t 57)],none,[57]⟩])
 (.seq (.aJ [aC 28 5,⟨some 29,.call 127 [(.t 28)],none,[28]⟩,w_ 8,⟨none,.st 4 (.t 8) (.t 29),none,[8,29]⟩])
 (.seq (.aJ [aC 30 7,mc 31 8,⟨none,.st 1 (.t 31) (.t 30),none,[31,30]⟩])
 (.aJ [aC 32 6,dG 33 8,⟨some 34,.kA 1 4 [(.int .i64 0),(.int .i64 0),(.int .i64 0),(.str [])] [(0,4,(.t 33))],none,[33]⟩,w9 35 32 34,aC 6 35]))))))))))
 (.seq (.aJ [aC 59 5,dh 60 59,mc 61 60,ch 62 61,zz 63 62])
 (.cond (.t 63)
 (.seq (.draw [aC 64 5,dh 65 64,mc 66 65,ch 67 66,aC 68 7,⟨some 69,.build [(.int .i64 0),(.int .i64 0)] [(0,1,(.t 67)),(1,1,(.t 68))],none,[67,68]⟩,pq 2,⟨none,.st 2 (.t 3) (.t 69),none,[3,69]⟩] [(3,[7])])
 (.ret))
 (.skip)))))
def DL:bV:=
 .seq (.aJ [pq 2,⟨some 3,.new [(.int .i64 0),(.int .i64 0)],none,[]⟩])
 (.seq (.seq (.aJ [aC 9 0,mP 10 9,⟨some 11,.bin (.int .gtr) (.t 10) (.c (.int .i64 65536)),none,[10]⟩])
 (.cond (.t 11)
 (.seq (.aJ [⟨some 12,.build [(.int .i64 0),(.int .i64 0)] [(0,1,(.c (.int .i64 3)))],none,[]⟩,pq 2,⟨none,.st 2 (.t 3) (.t 12),none,[3,12]⟩])
 (.ret))
 (.skip)))
 (.seq (.seq (.aJ [aC 13 0,⟨some 14,.call 123 [(.t 13)],none,[13]⟩,aC 4 14])
 (.seq (.aJ [aC 15 4,aC 16 0,mP 17 16,mO 18 15 17])
 (.cond (.t 18)
 (.seq (.aJ [aC 19 4,⟨some 20,.build [(.int .i64 0),(.int .i64 0)] [(0,1,(.c (.int .i64 250))),(1,1,(.t 19))],none,[19]⟩,pq 2,⟨none,.st 2 (.t 3) (.t 20),none,[3,20]⟩])
 (.ret))
 (.skip))))
 (.seq (.aJ [aC 21 0,⟨some 22,.build [(.str []),(.int .i64 0),(.int .i64 0)] [(0,1,(.t 21))],none,[21]⟩,iu 23 22,aC 5 23])
 (.seq (.aJ [pq 6])
 (.seq (.skip)
 (.seq (.block 0 (.loop JG))
 (.seq (.aJ [aC 70 6,⟨some 71,.build [(.int .i64 0),(.int .i64 0)] [],none,[]⟩,aC 2 70,⟨none,.st 2 (.t 3) (.t 71),none,[3,71]⟩])
 (.ret))))))))
theorem R':cW Tryz.prog Tryz.f104.ntmps (Tryz.f104.body.getD .skip)=DL:=by kernel_rfl
theorem R_:dZ Tryz.prog Tryz.f104.ntmps Tryz.f104.results.toList=[.t 2,.jm 3 2]:=by kernel_rfl
theorem R9 {args:List V} {h:af} {K:V→af→Prop} (ao:Nat.ble args.length 72=true) (H:cU Tryz.prog DL (aT.bg args) h fun e r ab=>e.ends∧∃ad,dM r ab [.t 2,.jm 3 2]=some ad∧K (oneOf ad) ab):b_ Tryz.prog 104 args h K:=
 fH follows eQ Tryz.func104 (c:=Tryz.f104.body.getD .skip) (by kernel_rfl) (by kernel_rfl) (by kernel_rfl) ao R' R_ (by kernel_rfl) H
def JH:bV:=
 .seq (.aJ [⟨some 9,.wz (.t 8),none,[8]⟩,l_ 10 9])
 (.seq (.cond (.t 10)
 (.skip)
 (.exit 0))
 (.block 1 (.seq (.aJ [ma 11 9,⟨some 12,.ext (.t 9) 2,none,[9]⟩,aC 3 11,aC 4 12])
 (.seq (.aJ [aC 13 4,⟨some 14,.bin (.int .eql) (.t 13) (.c (.int .i32 65533)),none,[13]⟩])
 (.cond (.t 14)
 (.seq (.aJ [aC 16 0,aC 17 3,C0 18 16 17,⟨some 19,.call 137 [(.t 18)],none,[18]⟩,aC 15 19,l_ 20 15,ma 21 15,aC 5 20,aC 6 21])
 (.seq (.aJ [aC 22 6,zC 23 22])
 (.cond (.t 23)
 (.seq (.aJ [aC 24 3,aC 2 24])
 (.ret))
 (.skip))))
 (.skip))))))
def DM:bV:=
 .seq (.aJ [jM 2])
 (.seq (.seq (.aJ [aC 7 0,⟨some 8,.wK (.t 7),none,[7]⟩])
 (.block 0 (.loop JH)))
 (.seq (.aJ [aC 25 0,mP 26 25,aC 2 26])
 (.ret)))
theorem Se:cW Tryz.prog Tryz.f123.ntmps (Tryz.f123.body.getD .skip)=DM:=by kernel_rfl
theorem Sf:dZ Tryz.prog Tryz.f123.ntmps Tryz.f123.results.toList=[.t 2]:=by kernel_rfl
theorem Sd {args:List V} {h:af} {K:V→af→Prop} (ao:Nat.ble args.length 27=true) (H:cU Tryz.prog DM (aT.bg args) h fun e r ab=>e.ends∧∃ad,dM r ab [.t 2]=some ad∧K (oneOf ad) ab):b_ Tryz.prog 123 args h K:=
 fH follows eQ Tryz.func123 (c:=Tryz.f123.body.getD .skip) (by kernel_rfl) (by kernel_rfl) (by kernel_rfl) ao Se Sf (by kernel_rfl) H
def DN:bV:=
 .seq (.aJ [jM 4])
 (.seq (.aJ [aC 5 0,aC 6 1,⟨some 7,.call 138 [(.t 5),(.t 6)],none,[5,6]⟩,aC 4 7])
 (.ret))
theorem Sh:cW Tryz.prog Tryz.f124.ntmps (Tryz.f124.body.getD .skip)=DN:=by kernel_rfl
theorem Si:dZ Tryz.prog Tryz.f124.ntmps Tryz.f124.results.toList=[.t 4]:=by kernel_rfl
theorem Sg {args:List V} {h:af} {K:V→af→Prop} (ao:Nat.ble args.length 8=true) (H:cU Tryz.prog DN (aT.bg args) h fun e r ab=>e.ends∧∃ad,dM r ab [.t 4]=some ad∧K (oneOf ad) ab):b_ Tryz.prog 124 args h K:=
 fH follows eQ Tryz.func124 (c:=Tryz.f124.body.getD .skip) (by kernel_rfl) (by kernel_rfl) (by kernel_rfl) ao Sh Si (by kernel_rfl) H
def DO:bV:=
 .seq (.aJ [gB 4])
 (.seq (.draw [aC 5 0,dh 6 5,jN 7 6,ch 8 7,aC 9 0,dh 10 9,eC 11 10,ch 12 11,C0 13 8 12,aC 14 1,⟨some 15,.call 139 [(.t 13),(.t 14)],none,[13,14]⟩,aC 4 15] [(3,[10]),(7,[10])])
 (.ret))
theorem Sk:cW Tryz.prog Tryz.f125.ntmps (Tryz.f125.body.getD .skip)=DO:=by kernel_rfl
theorem Sl:dZ Tryz.prog Tryz.f125.ntmps Tryz.f125.results.toList=[.t 4]:=by kernel_rfl
theorem Sj {args:List V} {h:af} {K:V→af→Prop} (ao:Nat.ble args.length 16=true) (H:cU Tryz.prog DO (aT.bg args) h fun e r ab=>e.ends∧∃ad,dM r ab [.t 4]=some ad∧K (oneOf ad) ab):b_ Tryz.prog 125 args h K:=
 fH follows eQ Tryz.func125 (c:=Tryz.f125.body.getD .skip) (by kernel_rfl) (by kernel_rfl) (by kernel_rfl) ao Sk Sl (by kernel_rfl) H
def JI:bV:=
 .block 1 (.block 2 (.seq (.draw [aC 11 0,dh 12 11,eC 13 12,ch 14 13,aC 15 0,dh 16 15,jN 17 16,ch 18 17,mP 19 18,zE 20 14 19,aC 10 20] [])
 (.cond (.t 10)
 (.seq (.aJ [aC 21 0,dh 22 21,mc 23 22,⟨none,.st 1 (.t 23) (.c (.int .i64 253)),none,[23]⟩])
 (.ret))
 (.seq (.aJ [aC 25 0,⟨some 26,.call 125 [(.t 25),(.c (.str [40,42]))],none,[25]⟩,aC 24 26])
 (.cond (.t 24)
 (.seq (.aJ [aC 27 2,hx 28 27,aC 2 28])
 (.aJ [aC 29 0,dh 30 29,eC 31 30,ch 32 31,⟨some 33,.bin (.int .add) (.t 32) (.c (.int .i64 2)),none,[32]⟩,dh 34 29,eC 35 34,⟨none,.st 1 (.t 35) (.t 33),none,[35,33]⟩]))
 (.seq (.aJ [aC 37 0,⟨some 38,.call 125 [(.t 37),(.c (.str [42,41]))],none,[37]⟩,aC 36 38])
 (.cond (.t 36)
 (.seq (.aJ [aC 39 2,⟨some 40,.bin (.int .sub) (.t 39) (.c (.int .i64 1)),none,[39]⟩,aC 2 40])
 (.seq (.aJ [aC 41 0,dh 42 41,eC 43 42,ch 44 43,⟨some 45,.bin (.int .add) (.t 44) (.c (.int .i64 2)),none,[44]⟩,dh 46 41,eC 47 46,⟨none,.st 1 (.t 47) (.t 45),none,[47,45]⟩])
 (.seq (.aJ [aC 48 2,uO 49 48])
 (.cond (.t 49)
 (.ret)
 (.skip)))))
 (.aJ [aC 3 0,dh 4 3,eC 5 4,ch 6 5,hx 7 6,dh 8 3,eC 9 8,⟨none,.st 1 (.t 9) (.t 7),none,[9,7]⟩]))))))))
def DP:bV:=
 .seq (.aJ [jM 2])
 (.block 0 (.loop JI))
theorem Sn:cW Tryz.prog Tryz.f126.ntmps (Tryz.f126.body.getD .skip)=DP:=by kernel_rfl
theorem Sp:dZ Tryz.prog Tryz.f126.ntmps Tryz.f126.results.toList=[]:=by kernel_rfl
theorem Sm {args:List V} {h:af} {K:V→af→Prop} (ao:Nat.ble args.length 50=true) (H:cU Tryz.prog DP (aT.bg args) h fun e r ab=>e.ends∧∃ad,dM r ab []=some ad∧K (oneOf ad) ab):b_ Tryz.prog 126 args h K:=
 fH follows eQ Tryz.func126 (c:=Tryz.f126.body.getD .skip) (by kernel_rfl) (by kernel_rfl) (by kernel_rfl) ao Sn Sp (by kernel_rfl) H
def JJ:bV:=
 .seq (.aJ [mO 80 79 78])
 (.seq (.cond (.t 80)
 (.skip)
 (.exit 1))
 (.seq (.block 2 (.seq (.aJ [⟨some 81,.fz 1 (.t 77) (.t 79),none,[77,79]⟩,ch 82 81,aC 5 82])
 (.seq (.aJ [aC 83 0,aC 84 5,⟨some 85,.call 125 [(.t 83),(.t 84)],none,[83,84]⟩])
 (.cond (.t 85)
 (.seq (.aJ [aC 86 0,dh 87 86,eC 88 87,ch 89 88,aC 90 5,mP 91 90,⟨some 92,.bin (.int .add) (.t 89) (.t 91),none,[89,91]⟩,dh 93 86,eC 94 93,⟨none,.st 1 (.t 94) (.t 92),none,[94,92]⟩])
 (.seq (.aJ [aC 95 5,IY 96 95,⟨none,.st 4 (.t 2) (.t 96),none,[2,96]⟩])
 (.ret)))
 (.skip)))))
 (.aJ [hx 97 79,aC 79 97])))
def DQ:bV:=
 .seq (.aJ [w_ 2])
 (.seq (.draw [aC 6 0,dh 7 6,jN 8 7,ch 9 8,aC 10 0,dh 11 10,eC 12 11,ch 13 12,⟨some 14,.lg (.t 9) (.t 13),none,[9,13]⟩,aC 3 14] [])
 (.seq (.block 0 (.seq (.aJ [aC 16 3,⟨some 17,.call 140 [(.t 16)],none,[16]⟩,aC 15 17])
 (.cond (.t 15)
 (.seq (.aJ [aC 18 0,⟨some 19,.call 141 [(.t 18)],none,[18]⟩,⟨none,.st 4 (.t 2) (.t 19),none,[2,19]⟩])
 (.ret))
 (.seq (.aJ [aC 21 3,⟨some 22,.bin (.int .eql) (.t 21) (.c (.int .u8 34)),none,[21]⟩,aC 20 22])
 (.cond (.t 20)
 (.seq (.aJ [aC 23 0,⟨some 24,.call 142 [(.t 23)],none,[23]⟩,⟨none,.st 4 (.t 2) (.t 24),none,[2,24]⟩])
 (.ret))
 (.seq (.aJ [aC 26 3,⟨some 27,.call 143 [(.t 26)],none,[26]⟩,aC 28 27,po 29 3 28,⟨some 30,.bin (.int .eql) (.t 29) (.c (.int .u8 95)),(some (28,false)),[29,28]⟩,kX 31 28 30,aC 25 31])
 (.cond (.t 25)
 (.seq (.aJ [aC 32 0,⟨some 33,.call 144 [(.t 32),(.c (.int .i64 3))],none,[32]⟩,⟨none,.st 4 (.t 2) (.t 33),none,[2,33]⟩])
 (.ret))
 (.seq (.aJ [aC 35 3,⟨some 36,.call 145 [(.t 35)],none,[35]⟩,aC 34 36])
 (.cond (.t 34)
 (.seq (.aJ [aC 37 0,⟨some 38,.call 144 [(.t 37),(.c (.int .i64 4))],none,[37]⟩,⟨none,.st 4 (.t 2) (.t 38),none,[2,38]⟩])
 (.ret))
 (.seq (.draw [aC 40 3,⟨some 41,.bin (.int .eql) (.t 40) (.c (.int .u8 39)),none,[40]⟩,aC 42 41,eY 43 0 42,uS 44 43 42,sU 45 44 42,gX 46 45 42,⟨some 47,.bin (.int .add) (.t 46) (.c (.int .i64 1)),(some (42,true)),[46,42]⟩,eY 48 0 42,uS 49 48 42,w' 50 49 42,gX 51 50 42,⟨some 52,.len .str (.t 51),(some (42,true)),[51,42]⟩,⟨some 53,.bin (.int .lss) (.t 47) (.t 52),(some (42,true)),[47,52,42]⟩,eB 54 42 53,aC 55 54,eY 56 0 55,uS 57 56 55,w' 58 57 55,gX 59 58 55,eY 60 0 55,uS 61 60 55,sU 62 61 55,gX 63 62 55,⟨some 64,.bin (.int .add) (.t 63) (.c (.int .i64 1)),(some (55,true)),[63,55]⟩,⟨some 65,.lg (.t 59) (.t 64),(some (55,true)),[59,64,55]⟩,⟨some 66,.call 143 [(.t 65)],(some (55,true)),[65,55]⟩,eB 67 55 66,aC 39 67] [(6,[26]),(11,[26]),(19,[26]),(23,[26])])
 (.cond (.t 39)
 (.seq (.aJ [aC 68 0,dh 69 68,eC 70 69,ch 71 70,hx 72 71,dh 73 68,eC 74 73,⟨none,.st 1 (.t 74) (.t 72),none,[74,72]⟩])
 (.seq (.aJ [aC 75 0,⟨some 76,.call 144 [(.t 75),(.c (.int .i64 5))],none,[75]⟩,⟨none,.st 4 (.t 2) (.t 76),none,[2,76]⟩])
 (.ret)))
 (.skip))))))))))))
 (.seq (.seq (.aJ [⟨some 77,.call 146 [],none,[]⟩,mb 78 77,jM 79])
 (.block 1 (.loop JJ)))
 (.seq (.aJ [aC 98 0,dh 99 98,mc 100 99,⟨none,.st 1 (.t 100) (.c (.int .i64 251)),none,[100]⟩])
 (.seq (.aJ [C1 101,⟨none,.st 4 (.t 2) (.t 101),none,[2,101]⟩])
 (.ret))))))
theorem Sr:cW Tryz.prog Tryz.f127.ntmps (Tryz.f127.body.getD .skip)=DQ:=by kernel_rfl
theorem Ss:dZ Tryz.prog Tryz.f127.ntmps Tryz.f127.results.toList=[.jm 2 4]:=by kernel_rfl
theorem Sq {args:List V} {h:af} {K:V→af→Prop} (ao:Nat.ble args.length 102=true) (H:cU Tryz.prog DQ (aT.bg args) h fun e r ab=>e.ends∧∃ad,dM r ab [.jm 2 4]=some ad∧K (oneOf ad) ab):b_ Tryz.prog 127 args h K:=
 fH follows eQ Tryz.func127 (c:=Tryz.f127.body.getD .skip) (by kernel_rfl) (by kernel_rfl) (by kernel_rfl) ao Sr Ss (by kernel_rfl) H
def c138:bV:=
 .seq (.aJ [jM 4])
 (.seq (.aJ [aC 5 0,aC 6 1,⟨some 7,.call 153 [(.t 5),(.t 6)],none,[5,6]⟩,aC 4 7])
 (.ret))
theorem Su:cW Tryz.prog Tryz.f138.ntmps (Tryz.f138.body.getD .skip)=c138:=by kernel_rfl
theorem Sv:dZ Tryz.prog Tryz.f138.ntmps Tryz.f138.results.toList=[.t 4]:=by kernel_rfl
theorem St {args:List V} {h:af} {K:V→af→Prop} (ao:Nat.ble args.length 8=true) (H:cU Tryz.prog c138 (aT.bg args) h fun e r ab=>e.ends∧∃ad,dM r ab [.t 4]=some ad∧K (oneOf ad) ab):b_ Tryz.prog 138 args h K:=
 fH follows eQ Tryz.func138 (c:=Tryz.f138.body.getD .skip) (by kernel_rfl) (by kernel_rfl) (by kernel_rfl) ao Su Sv (by kernel_rfl) H
def DR:bV:=
 .seq (.aJ [gB 4])
 (.seq (.aJ [aC 5 0,aC 6 1,⟨some 7,.call 154 [(.t 5),(.t 6)],none,[5,6]⟩,aC 4 7])
 (.ret))
theorem Sx:cW Tryz.prog Tryz.f139.ntmps (Tryz.f139.body.getD .skip)=DR:=by kernel_rfl
theorem Sy:dZ Tryz.prog Tryz.f139.ntmps Tryz.f139.results.toList=[.t 4]:=by kernel_rfl
theorem Sw {args:List V} {h:af} {K:V→af→Prop} (ao:Nat.ble args.length 8=true) (H:cU Tryz.prog DR (aT.bg args) h fun e r ab=>e.ends∧∃ad,dM r ab [.t 4]=some ad∧K (oneOf ad) ab):b_ Tryz.prog 139 args h K:=
 fH follows eQ Tryz.func139 (c:=Tryz.f139.body.getD .skip) (by kernel_rfl) (by kernel_rfl) (by kernel_rfl) ao Sx Sy (by kernel_rfl) H
def DS:bV:=
 .seq (.aJ [gB 2])
 (.seq (.aJ [aC 3 0,⟨some 4,.bin (.int .geq) (.t 3) (.c (.int .u8 48)),none,[3]⟩,aC 5 4,eY 6 0 5,⟨some 7,.bin (.int .leq) (.t 6) (.c (.int .u8 57)),(some (5,true)),[6,5]⟩,eB 8 5 7,aC 2 8])
 (.ret))
theorem SA:cW Tryz.prog Tryz.f140.ntmps (Tryz.f140.body.getD .skip)=DS:=by kernel_rfl
theorem SB:dZ Tryz.prog Tryz.f140.ntmps Tryz.f140.results.toList=[.t 2]:=by kernel_rfl
theorem Sz {args:List V} {h:af} {K:V→af→Prop} (ao:Nat.ble args.length 9=true) (H:cU Tryz.prog DS (aT.bg args) h fun e r ab=>e.ends∧∃ad,dM r ab [.t 2]=some ad∧K (oneOf ad) ab):b_ Tryz.prog 140 args h K:=
 fH follows eQ Tryz.func140 (c:=Tryz.f140.body.getD .skip) (by kernel_rfl) (by kernel_rfl) (by kernel_rfl) ao SA SB (by kernel_rfl) H
def DT:bV:=
 .seq (.aJ [w_ 2])
 (.seq (.aJ [aC 7 0,⟨some 8,.call 156 [(.t 7),(.c (.func 140 []))],none,[7]⟩,⟨some 9,.call 155 [(.t 8),(.c (.int .i64 10)),(.c (.int .i64 64))],none,[8]⟩,aC 6 9,l_ 10 6,ma 11 6,aC 3 10,aC 4 11])
 (.seq (.seq (.aJ [aC 12 4,⟨some 13,.bin (.kD true 5) (.t 12) (.c .nilIface),none,[12]⟩,aC 14 13,po 15 3 14,⟨some 16,.bin (.int .gtr) (.t 15) (.c (.int .u64 2147483647)),(some (14,false)),[15,14]⟩,kX 17 14 16])
 (.cond (.t 17)
 (.seq (.aJ [aC 18 0,dh 19 18,mc 20 19,⟨none,.st 1 (.t 20) (.c (.int .i64 254)),none,[20]⟩])
 (.seq (.aJ [C1 21,⟨none,.st 4 (.t 2) (.t 21),none,[2,21]⟩])
 (.ret)))
 (.skip)))
 (.seq (.aJ [aC 22 3,⟨some 23,.jQ (.int .i64) (.t 22),none,[22]⟩,aC 5 23])
 (.seq (.seq (.aJ [aC 24 5,⟨some 25,.bin (.int .gtr) (.t 24) (.c (.int .i64 1073741823)),none,[24]⟩])
 (.cond (.t 25)
 (.aJ [aC 26 5,⟨some 27,.bin (.int .sub) (.t 26) (.c (.int .i64 2147483648)),none,[26]⟩,aC 5 27])
 (.skip)))
 (.seq (.aJ [aC 28 5,⟨some 29,.build [(.int .i64 0),(.int .i64 0),(.int .i64 0),(.str [])] [(0,1,(.c (.int .i64 1))),(1,1,(.t 28))],none,[28]⟩,⟨none,.st 4 (.t 2) (.t 29),none,[2,29]⟩])
 (.ret))))))
theorem SD:cW Tryz.prog Tryz.f141.ntmps (Tryz.f141.body.getD .skip)=DT:=by kernel_rfl
theorem SE:dZ Tryz.prog Tryz.f141.ntmps Tryz.f141.results.toList=[.jm 2 4]:=by kernel_rfl
theorem SC {args:List V} {h:af} {K:V→af→Prop} (ao:Nat.ble args.length 30=true) (H:cU Tryz.prog DT (aT.bg args) h fun e r ab=>e.ends∧∃ad,dM r ab [.jm 2 4]=some ad∧K (oneOf ad) ab):b_ Tryz.prog 141 args h K:=
 fH follows eQ Tryz.func141 (c:=Tryz.f141.body.getD .skip) (by kernel_rfl) (by kernel_rfl) (by kernel_rfl) ao SD SE (by kernel_rfl) H
def JK:bV:=
 .seq (.seq (.aJ [aC 12 0,dh 13 12,mc 14 13,ch 15 14,uO 16 15])
 (.cond (.t 16)
 (.skip)
 (.exit 0)))
 (.block 1 (.seq (.seq (.draw [aC 17 0,dh 18 17,eC 19 18,ch 20 19,aC 21 0,dh 22 21,jN 23 22,ch 24 23,mP 25 24,zE 26 20 25] [])
 (.cond (.t 26)
 (.seq (.aJ [aC 27 0,dh 28 27,mc 29 28,⟨none,.st 1 (.t 29) (.c (.int .i64 252)),none,[29]⟩])
 (.exit 0))
 (.skip)))
 (.seq (.draw [aC 30 0,dh 31 30,jN 32 31,ch 33 32,aC 34 0,dh 35 34,eC 36 35,ch 37 36,⟨some 38,.lg (.t 33) (.t 37),none,[33,37]⟩,aC 4 38] [])
 (.block 2 (.seq (.aJ [aC 51 4,⟨some 52,.bin (.int .eql) (.t 51) (.c (.int .u8 34)),none,[51]⟩,aC 50 52])
 (.cond (.t 50)
 (.seq (.aJ [aC 53 0,dh 54 53,eC 55 54,ch 56 55,hx 57 56,dh 58 53,eC 59 58,⟨none,.st 1 (.t 59) (.t 57),none,[59,57]⟩])
 (.seq (.seq (.aJ [aC 60 3,mb 61 60,⟨some 62,.bin (.int .gtr) (.t 61) (.c (.int .i64 4096)),none,[61]⟩])
 (.cond (.t 62)
 (.aJ [aC 63 0,dh 64 63,mc 65 64,⟨none,.st 1 (.t 65) (.c (.int .i64 255)),none,[65]⟩])
 (.skip)))
 (.seq (.aJ [aC 66 3,⟨some 67,.jQ .str (.t 66),none,[66]⟩,⟨some 68,.build [(.int .i64 0),(.int .i64 0),(.int .i64 0),(.str [])] [(0,1,(.c (.int .i64 2))),(3,1,(.t 67))],none,[67]⟩,⟨none,.st 4 (.t 2) (.t 68),none,[2,68]⟩])
 (.ret))))
 (.seq (.aJ [aC 70 4,⟨some 71,.bin (.int .eql) (.t 70) (.c (.int .u8 92)),none,[70]⟩,aC 69 71])
 (.cond (.t 69)
 (.aJ [aC 72 3,aC 73 0,⟨some 74,.call 157 [(.t 73)],none,[73]⟩,⟨some 75,.kA 1 1 [(.int .u8 0)] [(0,1,(.t 74))],none,[74]⟩,⟨some 76,.app 1 (.t 72) (.t 75),none,[72,75]⟩,aC 3 76])
 (.seq (.aJ [aC 78 4,⟨some 79,.bin (.int .lss) (.t 78) (.c (.int .u8 32)),none,[78]⟩,aC 80 79,po 81 4 80,⟨some 82,.bin (.int .eql) (.t 81) (.c (.int .u8 127)),(some (80,false)),[81,80]⟩,kX 83 80 82,aC 77 83])
 (.cond (.t 77)
 (.aJ [aC 84 0,dh 85 84,mc 86 85,⟨none,.st 1 (.t 86) (.c (.int .i64 252)),none,[86]⟩])
 (.seq (.aJ [aC 39 0,dh 40 39,eC 41 40,ch 42 41,hx 43 42,dh 44 39,eC 45 44,⟨none,.st 1 (.t 45) (.t 43),none,[45,43]⟩])
 (.aJ [aC 46 3,aC 47 4,⟨some 48,.kA 1 1 [(.int .u8 0)] [(0,1,(.t 47))],none,[47]⟩,⟨some 49,.app 1 (.t 46) (.t 48),none,[46,48]⟩,aC 3 49]))))))))))))
def DU:bV:=
 .seq (.aJ [w_ 2])
 (.seq (.aJ [aC 5 0,dh 6 5,eC 7 6,ch 8 7,hx 9 8,dh 10 5,eC 11 10,⟨none,.st 1 (.t 11) (.t 9),none,[11,9]⟩])
 (.seq (.aJ [pq 3])
 (.seq (.block 0 (.loop JK))
 (.seq (.aJ [C1 87,⟨none,.st 4 (.t 2) (.t 87),none,[2,87]⟩])
 (.ret)))))
theorem SG:cW Tryz.prog Tryz.f142.ntmps (Tryz.f142.body.getD .skip)=DU:=by kernel_rfl
theorem SH:dZ Tryz.prog Tryz.f142.ntmps Tryz.f142.results.toList=[.jm 2 4]:=by kernel_rfl
theorem SF {args:List V} {h:af} {K:V→af→Prop} (ao:Nat.ble args.length 88=true) (H:cU Tryz.prog DU (aT.bg args) h fun e r ab=>e.ends∧∃ad,dM r ab [.jm 2 4]=some ad∧K (oneOf ad) ab):b_ Tryz.prog 142 args h K:=
 fH follows eQ Tryz.func142 (c:=Tryz.f142.body.getD .skip) (by kernel_rfl) (by kernel_rfl) (by kernel_rfl) ao SG SH (by kernel_rfl) H
def DV:bV:=
 .seq (.aJ [gB 2])
 (.seq (.aJ [aC 3 0,⟨some 4,.bin (.int .geq) (.t 3) (.c (.int .u8 97)),none,[3]⟩,aC 5 4,eY 6 0 5,⟨some 7,.bin (.int .leq) (.t 6) (.c (.int .u8 122)),(some (5,true)),[6,5]⟩,eB 8 5 7,aC 2 8])
 (.ret))
theorem SJ:cW Tryz.prog Tryz.f143.ntmps (Tryz.f143.body.getD .skip)=DV:=by kernel_rfl
theorem SK:dZ Tryz.prog Tryz.f143.ntmps Tryz.f143.results.toList=[.t 2]:=by kernel_rfl
theorem SI {args:List V} {h:af} {K:V→af→Prop} (ao:Nat.ble args.length 9=true) (H:cU Tryz.prog DV (aT.bg args) h fun e r ab=>e.ends∧∃ad,dM r ab [.t 2]=some ad∧K (oneOf ad) ab):b_ Tryz.prog 143 args h K:=
 fH follows eQ Tryz.func143 (c:=Tryz.f143.body.getD .skip) (by kernel_rfl) (by kernel_rfl) (by kernel_rfl) ao SJ SK (by kernel_rfl) H
def DW:bV:=
 .seq (.aJ [w_ 4])
 (.seq (.aJ [aC 6 0,⟨some 7,.call 156 [(.t 6),(.c (.func 158 []))],none,[6]⟩,aC 5 7])
 (.seq (.block 0 (.seq (.aJ [aC 9 1,⟨some 10,.bin (.int .eql) (.t 9) (.c (.int .i64 3)),none,[9]⟩,aC 11 10,eY 12 5 11,⟨some 13,.bin (.str .eql) (.t 12) (.c (.str [95])),(some (11,true)),[12,11]⟩,eB 14 11 13,aC 8 14])
 (.cond (.t 8)
 (.seq (.aJ [aC 15 5,IY 16 15,⟨none,.st 4 (.t 4) (.t 16),none,[4,16]⟩])
 (.ret))
 (.seq (.aJ [aC 18 1,⟨some 19,.bin (.int .eql) (.t 18) (.c (.int .i64 3)),none,[18]⟩,aC 20 19,eY 21 5 20,⟨some 22,.bin (.str .add) (.c (.str [32])) (.t 21),(some (20,true)),[21,20]⟩,⟨some 23,.bin (.str .add) (.t 22) (.c (.str [32])),(some (20,true)),[22,20]⟩,⟨some 24,.call 159 [(.c (.str [32,97,110,100,32,98,101,103,105,110,32,101,108,115,101,32,101,110,100,32,101,120,99,101,112,116,105,111,110,32,102,97,108,115,101,32,102,117,110,32,105,102,32,105,110,32,108,101,116,32,109,97,116,99,104,32,109,111,100,32,111,102,32,114,97,105,115,101,32,114,101,99,32,116,104,101,110,32,116,114,117,101,32,116,114,121,32,116,121,112,101,32,119,105,116,104,32])),(.t 23)],(some (20,true)),[23,20]⟩,eB 25 20 24,aC 17 25])
 (.cond (.t 17)
 (.seq (.aJ [aC 26 5,⟨some 27,.build [(.int .i64 0),(.int .i64 0),(.int .i64 0),(.str [])] [(0,1,(.c (.int .i64 6))),(3,1,(.t 26))],none,[26]⟩,⟨none,.st 4 (.t 4) (.t 27),none,[4,27]⟩])
 (.ret))
 (.seq (.aJ [aC 29 5,mP 30 29,⟨some 31,.bin (.int .gtr) (.t 30) (.c (.int .i64 64)),none,[30]⟩,aC 28 31])
 (.cond (.t 28)
 (.aJ [aC 32 0,dh 33 32,mc 34 33,⟨none,.st 1 (.t 34) (.c (.int .i64 255)),none,[34]⟩])
 (.skip))))))))
 (.seq (.aJ [aC 35 1,aC 36 5,⟨some 37,.build [(.int .i64 0),(.int .i64 0),(.int .i64 0),(.str [])] [(0,1,(.t 35)),(3,1,(.t 36))],none,[35,36]⟩,⟨none,.st 4 (.t 4) (.t 37),none,[4,37]⟩])
 (.ret))))
theorem SM:cW Tryz.prog Tryz.f144.ntmps (Tryz.f144.body.getD .skip)=DW:=by kernel_rfl
theorem SN:dZ Tryz.prog Tryz.f144.ntmps Tryz.f144.results.toList=[.jm 4 4]:=by kernel_rfl
theorem SL {args:List V} {h:af} {K:V→af→Prop} (ao:Nat.ble args.length 38=true) (H:cU Tryz.prog DW (aT.bg args) h fun e r ab=>e.ends∧∃ad,dM r ab [.jm 4 4]=some ad∧K (oneOf ad) ab):b_ Tryz.prog 144 args h K:=
 fH follows eQ Tryz.func144 (c:=Tryz.f144.body.getD .skip) (by kernel_rfl) (by kernel_rfl) (by kernel_rfl) ao SM SN (by kernel_rfl) H
def DX:bV:=
 .seq (.aJ [gB 2])
 (.seq (.aJ [aC 3 0,⟨some 4,.bin (.int .geq) (.t 3) (.c (.int .u8 65)),none,[3]⟩,aC 5 4,eY 6 0 5,⟨some 7,.bin (.int .leq) (.t 6) (.c (.int .u8 90)),(some (5,true)),[6,5]⟩,eB 8 5 7,aC 2 8])
 (.ret))
theorem SP:cW Tryz.prog Tryz.f145.ntmps (Tryz.f145.body.getD .skip)=DX:=by kernel_rfl
theorem SQ:dZ Tryz.prog Tryz.f145.ntmps Tryz.f145.results.toList=[.t 2]:=by kernel_rfl
theorem SO {args:List V} {h:af} {K:V→af→Prop} (ao:Nat.ble args.length 9=true) (H:cU Tryz.prog DX (aT.bg args) h fun e r ab=>e.ends∧∃ad,dM r ab [.t 2]=some ad∧K (oneOf ad) ab):b_ Tryz.prog 145 args h K:=
 fH follows eQ Tryz.func145 (c:=Tryz.f145.body.getD .skip) (by kernel_rfl) (by kernel_rfl) (by kernel_rfl) ao SP SQ (by kernel_rfl) H
def DY:bV:=
 .seq (.aJ [pq 0])
 (.seq (.aJ [⟨some 1,.kA 17 1 [(.str [])] [(0,1,(.c (.str [59,59]))),(1,1,(.c (.str [58,61]))),(2,1,(.c (.str [45,62]))),(3,1,(.c (.str [60,61]))),(4,1,(.c (.str [59]))),(5,1,(.c (.str [40]))),(6,1,(.c (.str [41]))),(7,1,(.c (.str [44]))),(8,1,(.c (.str [61]))),(9,1,(.c (.str [60]))),(10,1,(.c (.str [43]))),(11,1,(.c (.str [45]))),(12,1,(.c (.str [42]))),(13,1,(.c (.str [47]))),(14,1,(.c (.str [124]))),(15,1,(.c (.str [33]))),(16,1,(.c (.str [95])))],none,[]⟩,aC 0 1])
 (.ret))
theorem SS:cW Tryz.prog Tryz.f146.ntmps (Tryz.f146.body.getD .skip)=DY:=by kernel_rfl
theorem SU:dZ Tryz.prog Tryz.f146.ntmps Tryz.f146.results.toList=[.t 0]:=by kernel_rfl
theorem SR {args:List V} {h:af} {K:V→af→Prop} (ao:Nat.ble args.length 2=true) (H:cU Tryz.prog DY (aT.bg args) h fun e r ab=>e.ends∧∃ad,dM r ab [.t 0]=some ad∧K (oneOf ad) ab):b_ Tryz.prog 146 args h K:=
 fH follows eQ Tryz.func146 (c:=Tryz.f146.body.getD .skip) (by kernel_rfl) (by kernel_rfl) (by kernel_rfl) ao SS SU (by kernel_rfl) H
def DZ:bV:=
 .seq (.aJ [gB 4])
 (.seq (.aJ [aC 5 0,mP 6 5,aC 7 1,mP 8 7,zE 9 6 8,aC 10 9,eY 11 0 10,eY 12 1 10,⟨some 13,.len .str (.t 12),(some (10,true)),[12,10]⟩,⟨some 14,.qb (.t 11) none (some (.t 13)) none,(some (10,true)),[11,13,10]⟩,eY 15 1 10,zB 16 14 15 10,eB 17 10 16,aC 4 17])
 (.ret))
theorem SW:cW Tryz.prog Tryz.f154.ntmps (Tryz.f154.body.getD .skip)=DZ:=by kernel_rfl
theorem SX:dZ Tryz.prog Tryz.f154.ntmps Tryz.f154.results.toList=[.t 4]:=by kernel_rfl
theorem SV {args:List V} {h:af} {K:V→af→Prop} (ao:Nat.ble args.length 18=true) (H:cU Tryz.prog DZ (aT.bg args) h fun e r ab=>e.ends∧∃ad,dM r ab [.t 4]=some ad∧K (oneOf ad) ab):b_ Tryz.prog 154 args h K:=
 fH follows eQ Tryz.func154 (c:=Tryz.f154.body.getD .skip) (by kernel_rfl) (by kernel_rfl) (by kernel_rfl) ao SW SX (by kernel_rfl) H
def JL:bV:=
 .seq (.seq (.draw [aC 10 0,dh 11 10,eC 12 11,ch 13 12,aC 14 0,dh 15 14,jN 16 15,ch 17 16,mP 18 17,mO 19 13 18,aC 20 19,eY 21 1 20,eY 22 0 20,uS 23 22 20,w' 24 23 20,gX 25 24 20,eY 26 0 20,uS 27 26 20,sU 28 27 20,gX 29 28 20,⟨some 30,.lg (.t 25) (.t 29),(some (20,true)),[25,29,20]⟩,⟨some 31,.oG (.t 21) [(.t 30)],(some (20,true)),[21,30,20]⟩,eB 32 20 31] [(3,[21]),(7,[21]),(15,[21]),(19,[21])])
 (.cond (.t 32)
 (.skip)
 (.exit 0)))
 (.block 1 (.aJ [aC 33 0,dh 34 33,eC 35 34,ch 36 35,hx 37 36,dh 38 33,eC 39 38,⟨none,.st 1 (.t 39) (.t 37),none,[39,37]⟩]))
def D0:bV:=
 .seq (.aJ [⟨some 4,.gH (.c (.str [])),none,[]⟩])
 (.seq (.aJ [aC 6 0,dh 7 6,eC 8 7,ch 9 8,aC 5 9])
 (.seq (.block 0 (.loop JL))
 (.seq (.draw [aC 40 0,dh 41 40,jN 42 41,ch 43 42,aC 44 5,aC 45 0,dh 46 45,eC 47 46,ch 48 47,⟨some 49,.qb (.t 43) (some (.t 44)) (some (.t 48)) none,none,[43,44,48]⟩,aC 4 49] [])
 (.ret))))
theorem SZ:cW Tryz.prog Tryz.f156.ntmps (Tryz.f156.body.getD .skip)=D0:=by kernel_rfl
theorem S0:dZ Tryz.prog Tryz.f156.ntmps Tryz.f156.results.toList=[.t 4]:=by kernel_rfl
theorem SY {args:List V} {h:af} {K:V→af→Prop} (ao:Nat.ble args.length 50=true) (H:cU Tryz.prog D0 (aT.bg args) h fun e r ab=>e.ends∧∃ad,dM r ab [.t 4]=some ad∧K (oneOf ad) ab):b_ Tryz.prog 156 args h K:=
 fH follows eQ Tryz.func156 (c:=Tryz.f156.body.getD .skip) (by kernel_rfl) (by kernel_rfl) (by kernel_rfl) ao SZ S0 (by kernel_rfl) H
def D1:bV:=
 .seq (.aJ [⟨some 2,.gH (.c (.int .u8 0)),none,[]⟩])
 (.seq (.aJ [aC 7 0,dh 8 7,eC 9 8,ch 10 9,hx 11 10,dh 12 7,eC 13 12,⟨none,.st 1 (.t 13) (.t 11),none,[13,11]⟩])
 (.seq (.draw [aC 14 0,dh 15 14,jN 16 15,ch 17 16,aC 18 0,dh 19 18,eC 20 19,ch 21 20,C0 22 17 21,aC 3 22] [])
 (.seq (.seq (.aJ [aC 23 3,⟨some 24,.bin (.str .neq) (.t 23) (.c (.str [])),none,[23]⟩])
 (.cond (.t 24)
 (.seq (.aJ [aC 25 3,⟨some 26,.lg (.t 25) (.c (.int .i64 0)),none,[25]⟩,⟨some 27,.call 124 [(.c (.str [110,116,34,92])),(.t 26)],none,[26]⟩,aC 4 27])
 (.seq (.aJ [aC 28 4,CZ 29 28])
 (.cond (.t 29)
 (.seq (.aJ [aC 30 0,dh 31 30,eC 32 31,ch 33 32,hx 34 33,dh 35 30,eC 36 35,⟨none,.st 1 (.t 36) (.t 34),none,[36,34]⟩])
 (.seq (.aJ [aC 37 4,⟨some 38,.lg (.c (.str [10,9,34,92])) (.t 37),none,[37]⟩,aC 2 38])
 (.ret)))
 (.skip))))
 (.skip)))
 (.seq (.seq (.aJ [aC 39 3,mP 40 39,⟨some 41,.bin (.int .geq) (.t 40) (.c (.int .i64 3)),none,[40]⟩,aC 42 41,eY 43 3 42,⟨some 44,.lg (.t 43) (.c (.int .i64 0)),(some (42,true)),[43,42]⟩,⟨some 45,.call 140 [(.t 44)],(some (42,true)),[44,42]⟩,eB 46 42 45,aC 47 46,eY 48 3 47,⟨some 49,.lg (.t 48) (.c (.int .i64 1)),(some (47,true)),[48,47]⟩,⟨some 50,.call 140 [(.t 49)],(some (47,true)),[49,47]⟩,eB 51 47 50,aC 52 51,eY 53 3 52,⟨some 54,.lg (.t 53) (.c (.int .i64 2)),(some (52,true)),[53,52]⟩,⟨some 55,.call 140 [(.t 54)],(some (52,true)),[54,52]⟩,eB 56 52 55])
 (.cond (.t 56)
 (.seq (.aJ [aC 58 3,⟨some 59,.qb (.t 58) none (some (.c (.int .i64 3))) none,none,[58]⟩,⟨some 60,.call 166 [(.t 59)],none,[59]⟩,aC 57 60,l_ 61 57,ma 62 57,aC 5 61,aC 6 62])
 (.seq (.aJ [aC 63 5,⟨some 64,.bin (.int .lss) (.t 63) (.c (.int .i64 256)),none,[63]⟩])
 (.cond (.t 64)
 (.seq (.aJ [aC 65 0,dh 66 65,eC 67 66,ch 68 67,⟨some 69,.bin (.int .add) (.t 68) (.c (.int .i64 3)),none,[68]⟩,dh 70 65,eC 71 70,⟨none,.st 1 (.t 71) (.t 69),none,[71,69]⟩])
 (.seq (.aJ [aC 72 5,⟨some 73,.jQ (.int .u8) (.t 72),none,[72]⟩,aC 2 73])
 (.ret)))
 (.skip))))
 (.skip)))
 (.seq (.aJ [aC 74 0,dh 75 74,mc 76 75,⟨none,.st 1 (.t 76) (.c (.int .i64 252)),none,[76]⟩])
 (.seq (.aJ [⟨some 2,.gH (.c (.int .u8 0)),none,[]⟩])
 (.ret)))))))
theorem S2:cW Tryz.prog Tryz.f157.ntmps (Tryz.f157.body.getD .skip)=D1:=by kernel_rfl
theorem S3:dZ Tryz.prog Tryz.f157.ntmps Tryz.f157.results.toList=[.t 2]:=by kernel_rfl
theorem S1 {args:List V} {h:af} {K:V→af→Prop} (ao:Nat.ble args.length 77=true) (H:cU Tryz.prog D1 (aT.bg args) h fun e r ab=>e.ends∧∃ad,dM r ab [.t 2]=some ad∧K (oneOf ad) ab):b_ Tryz.prog 157 args h K:=
 fH follows eQ Tryz.func157 (c:=Tryz.f157.body.getD .skip) (by kernel_rfl) (by kernel_rfl) (by kernel_rfl) ao S2 S3 (by kernel_rfl) H
def D2:bV:=
 .seq (.aJ [gB 2])
 (.seq (.aJ [aC 3 0,⟨some 4,.call 140 [(.t 3)],none,[3]⟩,aC 5 4,po 6 0 5,⟨some 7,.call 143 [(.t 6)],(some (5,false)),[6,5]⟩,kX 8 5 7,aC 9 8,po 10 0 9,⟨some 11,.call 145 [(.t 10)],(some (9,false)),[10,9]⟩,kX 12 9 11,aC 13 12,po 14 0 13,⟨some 15,.bin (.int .eql) (.t 14) (.c (.int .u8 95)),(some (13,false)),[14,13]⟩,kX 16 13 15,aC 17 16,po 18 0 17,⟨some 19,.bin (.int .eql) (.t 18) (.c (.int .u8 39)),(some (17,false)),[18,17]⟩,kX 20 17 19,aC 2 20])
 (.ret))
theorem S5:cW Tryz.prog Tryz.f158.ntmps (Tryz.f158.body.getD .skip)=D2:=by kernel_rfl
theorem S6:dZ Tryz.prog Tryz.f158.ntmps Tryz.f158.results.toList=[.t 2]:=by kernel_rfl
theorem S4 {args:List V} {h:af} {K:V→af→Prop} (ao:Nat.ble args.length 21=true) (H:cU Tryz.prog D2 (aT.bg args) h fun e r ab=>e.ends∧∃ad,dM r ab [.t 2]=some ad∧K (oneOf ad) ab):b_ Tryz.prog 158 args h K:=
 fH follows eQ Tryz.func158 (c:=Tryz.f158.body.getD .skip) (by kernel_rfl) (by kernel_rfl) (by kernel_rfl) ao S5 S6 (by kernel_rfl) H
theorem q' {f:FuncId} {args:List V} {h:af} {v:V} (c:b_ Tryz.prog f args h fun x ab=>x=v∧ab=h):gp Tryz.prog f args h v h:=by
 obtain ⟨x,ab,q,rfl,rfl⟩:=c
 exact q
def mZ (c:Int):Bool:=decide (48≤c)&&decide (c≤57)
def iA (c:Int):Bool:=decide (97≤c)&&decide (c≤122)
def nN (c:Int):Bool:=decide (65≤c)&&decide (c≤90)
def uf (c:Int):Bool:=mZ c||iA c||nN c||decide (c=95)||decide (c=39)
theorem va (c:Int) (h:af):gp Tryz.prog 140 [.int .u8 c] h (.bool (mZ c)) h:=by
 refine q' (Sz rfl (eA ?_))
 unfold DS
 simp +contextual only [↓aA,aI,simprocAttr]
 rfl
theorem Cu (c:Int) (h:af):gp Tryz.prog 143 [.int .u8 c] h (.bool (iA c)) h:=by
 refine q' (SI rfl (eA ?_))
 unfold DV
 simp +contextual only [↓aA,aI,simprocAttr]
 rfl
theorem K5 (c:Int) (h:af):gp Tryz.prog 145 [.int .u8 c] h (.bool (nN c)) h:=by
 refine q' (SO rfl (eA ?_))
 unfold DX
 simp +contextual only [↓aA,aI,simprocAttr]
 rfl
theorem WB (s p:List UInt8) (h:af):gp Tryz.prog 154 [.str s,.str p] h (.bool (p.isPrefixOf s)) h:=by
 refine q' (SV rfl (eA ?_))
 unfold DZ
 have a6:(0≤(p.length:Int))=True:=eq_true (by omega)
 by_cases ao:p.length≤s.length
 · have aa:((p.length:Int)≤(s.length:Int))=True:=eq_true (by omega)
   simp +contextual only [a6,aa,Int.toNat_natCast,↓aA,aI,simprocAttr]
   rw [Bool.eq_iff_iff,decide_eq_true_eq,List.isPrefixOf_iff_prefix,List.prefix_iff_eq_take]
   exact ⟨fun e=>e.symm,fun e=>e.symm⟩
 · have aa:((p.length:Int)≤(s.length:Int))=False:=eq_false (by omega)
   simp +contextual only [a6,aa,Int.toNat_natCast,↓aA,aI,simprocAttr]
   rw [eq_comm,←Bool.not_eq_true,List.isPrefixOf_iff_prefix]
   exact fun e=>ao e.length_le
theorem WA (s p:List UInt8) (h:af):gp Tryz.prog 139 [.str s,.str p] h (.bool (p.isPrefixOf s)) h:=by
 refine q' (Sw rfl (eA ?_))
 unfold DR
 simp +contextual only [↓aA,aI,simprocAttr]
 refine hK (WB s p h) ?_
 simp +contextual only [↓aA,aI,simprocAttr]
theorem aa7 (c:Int) (h:af):gp Tryz.prog 158 [.int .u8 c] h (.bool (uf c)) h:=by
 refine q' (S4 rfl (eA ?_))
 unfold D2
 simp +contextual only [↓aA,aI,simprocAttr]
 refine hK (va c h) ?_
 simp +contextual only [↓aA,aI,simprocAttr]
 refine KX (.bool (iA c)) (fun aD=>by simp only [aD,↓aA,aI,simprocAttr];exact Cu _ _) ?_
 simp +contextual only [↓aA,aI,simprocAttr]
 refine KX (.bool (nN c)) (fun aD=>by simp only [aD,↓aA,aI,simprocAttr];exact K5 _ _) ?_
 simp +contextual only [↓aA,aI,simprocAttr]
 rfl
theorem E_ (s p:List UInt8) (at':Int) (rest:List V) (b:aN) (cP:Nat) (st:Bool) (h:af) (ah:h.get b=.bg (.str s::.int .i64 at'::rest) cP st) (a6:0≤at') (aa:at'≤s.length):
 gp Tryz.prog 125 [.ptr b 0,.str p] h (.bool (p.isPrefixOf (s.drop at'.toNat))) h:=by
 refine q' (Sj rfl (eA ?_))
 unfold DO
 have f0:(0≤at')=True:=eq_true a6
 have f1:(at'≤(s.length:Int))=True:=eq_true aa
 simp +contextual only [ah,f0,f1,↓aA,aI,simprocAttr]
 refine hK (WA _ p h) ?_
 simp +contextual only [ah,f0,f1,↓aA,aI,simprocAttr]
def h8:List UInt8→Int→Option Nat
 | [],_=>none
 | [_],_=>none
 | x::y::r,d=>if x=40∧y=42 then (h8 r (d+1)).map (· +2) else if x=42∧y=41 then (if d-1=0 then some 2 else (h8 r (d-1)).map (· +2)) else (h8 (y::r) d).map (· +1)
theorem abV (r:List UInt8) (d:Int) (h:r≠[]):h8 r d=if ([40,42]:List UInt8).isPrefixOf r=true then (h8 (r.drop 2) (d+1)).map (· +2) else
 if ([42,41]:List UInt8).isPrefixOf r=true then (if d-1=0 then some 2 else (h8 (r.drop 2) (d-1)).map (· +2)) else (h8 (r.drop 1) d).map (· +1):=by
 match r,h with
 | [x],_=>simp [h8,List.isPrefixOf]
 | x::y::r,_=>
   have aP:(([40,42]:List UInt8).isPrefixOf (x::y::r)=true)=(x=40∧y=42):=by
    simp only [List.isPrefixOf,Bool.and_true,Bool.and_eq_true,beq_iff_eq]
    exact propext ⟨fun q=>⟨q.1.symm,q.2.symm⟩,fun q=>⟨q.1.symm,q.2.symm⟩⟩
   have bl:(([42,41]:List UInt8).isPrefixOf (x::y::r)=true)=(x=42∧y=41):=by
    simp only [List.isPrefixOf,Bool.and_true,Bool.and_eq_true,beq_iff_eq]
    exact propext ⟨fun q=>⟨q.1.symm,q.2.symm⟩,fun q=>⟨q.1.symm,q.2.symm⟩⟩
   rw [h8]
   simp only [aP,bl,List.drop_succ_cons,List.drop_zero]
theorem N3 {a b:UInt8} {r:List UInt8} (h:([a,b]:List UInt8).isPrefixOf r=true):2≤r.length:=by
 rw [List.isPrefixOf_iff_prefix] at h
 simpa using h.length_le
noncomputable def e_ (s:List UInt8) (at' e:Int):b4:=.bg [.str s,.int .i64 at',.int .i64 e] 0 false
theorem abW (s:List UInt8) (a0:Nat) (cR:Int) (b:aN) (h:af) (ah:h.get b=e_ s a0 cR) (a6:a0≤s.length) (aO:s.length≤100000) (gE:Old h b):
 b_ Tryz.prog 126 [.ptr b 0] h fun x ab=>x=.tuple []∧Mod (fun x=>x=b) h ab∧(match h8 (s.drop a0) 0 with
  | some n=>ab.get b=e_ s ((a0+n:Nat):Int) cR∧a0+n≤s.length
  | none=>ab.get b=e_ s (s.length:Int) 253):=by
 refine Sm rfl (eA ?_)
 unfold DP
 unfold e_ at ah ⊢
 simp +contextual only [ah,↓aA,aI,simprocAttr]
 refine ll (fun r ab=>∃(a:Nat) (d:Int),a0≤a∧a≤s.length∧r 0=.ptr b 0∧r 2=.int .i64 d∧ab.get b=.bg [.str s,.int .i64 a,.int .i64 cR] 0 false∧Mod (fun x=>x=b) h ab∧-(a:Int)≤d∧d≤a∧
  h8 (s.drop a0) 0=(h8 (s.drop a) d).map (· + (a-a0))) (fun r ab=>s.length - ((j0 (ab.get b) 1).getD .bad).toN) ?_ ?_
 · refine ⟨a0,0,Nat.le_refl _,a6,?_⟩
   simp only [↓aA,aI,simprocAttr]
   refine ⟨ah,Mod.refl _ _,by omega,by omega,?_⟩
   rw [Nat.sub_self]
   cases h8 (s.drop a0) 0<;>rfl
 · rintro r ab ⟨a,d,p2,bX,bQ,b7,aE,hm,d0,d1,bA⟩
   unfold JI
   by_cases fU:(s.length:Int)≤(a:Int)
   · have bd:a=s.length:=by omega
     have aS:h8 (s.drop a) d=none:=by
      rw [bd,List.drop_length]
      rfl
     rw [aS] at bA
     simp +contextual only [bQ,b7,aE,fU,↓aA,aI,simprocAttr]
     rw [bA]
     refine ⟨hm.set (fun _=>rfl) _,?_⟩
     simp only [bd,Option.map_none,c0,if_true]
   · have dJ:s.drop a≠[]:=by
      intro q
      rw [List.drop_eq_nil_iff] at q
      omega
     have x6:∀p,gp Tryz.prog 125 [.ptr b 0,.str p] ab (.bool (p.isPrefixOf (s.drop a))) ab:=fun p=>by
      have:=E_ s p (a:Int) [.int .i64 cR] b 0 false ab aE (by omega) (by omega)
      simpa using this
     have hC:=abV (s.drop a) d dJ
     simp +contextual only [bQ,b7,aE,fU,↓aA,aI,simprocAttr]
     refine hK (x6 _) ?_
     cases il:([40,42]:List UInt8).isPrefixOf (s.drop a) with
     | true=>
       have ae:=N3 il
       rw [List.length_drop] at ae
       rw [il,if_pos rfl] at hC
       have bT:IntKind.i64.wrap (d+1)=d+1:=wrap_i64 (by omega) (by omega)
       have bP:IntKind.i64.wrap ((a:Int)+2)=((a+2:Nat):Int):=by rw [wrap_i64 (by omega) (by omega)];rfl
       simp +contextual only [bQ,b7,aE,bT,bP,↓aA,aI,simprocAttr]
       refine ⟨⟨a+2,d+1,by omega,by omega,rfl,rfl,hm.set (fun _=>rfl) _,by omega,by omega,?_⟩,by omega⟩
       rw [bA,hC,List.drop_drop,Option.map_map]
       congr 1
       funext q
       simp only [Function.comp]
       omega
     | false=>
       rw [il,if_neg (by decide)] at hC
       simp +contextual only [bQ,b7,aE,↓aA,aI,simprocAttr]
       refine hK (x6 _) ?_
       cases hN:([42,41]:List UInt8).isPrefixOf (s.drop a) with
       | true=>
         have ae:=N3 hN
         rw [List.length_drop] at ae
         rw [hN,if_pos rfl] at hC
         have bT:IntKind.i64.wrap (d-1)=d-1:=wrap_i64 (by omega) (by omega)
         have bP:IntKind.i64.wrap ((a:Int)+2)=((a+2:Nat):Int):=by rw [wrap_i64 (by omega) (by omega)];rfl
         by_cases aX:d-1=0
         · rw [if_pos aX] at hC
           obtain rfl:d=1:=by omega
           have aq:IntKind.i64.wrap 0=0:=rfl
           simp +contextual only [bQ,b7,aE,aq,bP,↓aA,aI,simprocAttr]
           rw [bA,hC]
           refine ⟨hm.set (fun _=>rfl) _,?_⟩
           simp only [Option.map_some,c0,if_true]
           refine ⟨?_,by omega⟩
           rw [show a0 + (2 + (a-a0))=a+2 from by omega]
         · rw [if_neg aX] at hC
           simp +contextual only [bQ,b7,aE,bT,bP,aX,↓aA,aI,simprocAttr]
           refine ⟨⟨a+2,d-1,by omega,by omega,rfl,rfl,hm.set (fun _=>rfl) _,by omega,by omega,?_⟩,by omega⟩
           rw [bA,hC,List.drop_drop,Option.map_map]
           congr 1
           funext q
           simp only [Function.comp]
           omega
       | false=>
         rw [hN,if_neg (by decide)] at hC
         have bP:IntKind.i64.wrap ((a:Int)+1)=((a+1:Nat):Int):=by rw [wrap_i64 (by omega) (by omega)];rfl
         simp +contextual only [bQ,b7,aE,bP,↓aA,aI,simprocAttr]
         refine ⟨⟨a+1,d,by omega,by omega,rfl,rfl,hm.set (fun _=>rfl) _,by omega,by omega,?_⟩,by omega⟩
         rw [bA,hC,List.drop_drop,Option.map_map]
         congr 1
         funext q
         simp only [Function.comp]
         omega
theorem drop_cons {s:List UInt8} {a:Nat} (h:a<s.length):s.drop a=s[a]::s.drop (a+1):=List.drop_eq_getElem_cons h
theorem PF (p:UInt8→Bool):∀l:List UInt8,(l.takeWhile p).length≤l.length
 | []=>by simp
 | x::l=>by
   simp only [List.takeWhile_cons]
   split
   · simpa using PF p l
   · simp
theorem OY (s:List UInt8) (a0:Nat) (cR:Int) (b:aN) (g:FuncId) (p:Int→Bool) (h:af) (ah:h.get b=e_ s a0 cR) (a6:a0≤s.length) (aO:s.length≤100000) (a7:(g=4294967296)=False)
 (ag:∀c h,gp Tryz.prog g [.int .u8 c] h (.bool (p c)) h):
 b_ Tryz.prog 156 [.ptr b 0,.func g []] h fun x ab=>x=.str ((s.drop a0).takeWhile fun c=>p c.toNat)∧Mod (fun x=>x=b) h ab∧ab.get b=e_ s ((a0 + ((s.drop a0).takeWhile fun c=>p c.toNat).length:Nat):Int) cR:=by
 refine SY rfl (eA ?_)
 unfold D0
 unfold e_ at ah ⊢
 simp +contextual only [ah,↓aA,aI,simprocAttr]
 refine ll (fun r ab=>∃(a:Nat),a0≤a∧a≤s.length∧r 0=.ptr b 0∧r 1=.func g []∧r 5=.int .i64 a0∧ab.get b=.bg [.str s,.int .i64 a,.int .i64 cR] 0 false∧Mod (fun x=>x=b) h ab∧
  ((s.drop a0).takeWhile fun c=>p c.toNat)=(s.drop a0).take (a-a0)++((s.drop a).takeWhile fun c=>p c.toNat)) (fun r ab=>s.length - ((j0 (ab.get b) 1).getD .bad).toN) ?_ ?_
 · refine ⟨a0,Nat.le_refl _,a6,?_⟩
   simp only [↓aA,aI,simprocAttr]
   refine ⟨ah,Mod.refl _ _,?_⟩
   rw [Nat.sub_self]
   rfl
 · rintro r ab ⟨a,p2,bX,bQ,bS,hd,aE,hm,bA⟩
   unfold JL
   have fin:((s.drop a).takeWhile fun c=>p c.toNat)=[]→V.str (((s.drop a0).take (a-a0)))=V.str ((s.drop a0).takeWhile fun c=>p c.toNat)∧Mod (fun x=>x=b) h ab∧b4.bg [V.str s,V.int .i64 a,V.int .i64 cR] 0 false=b4.bg [V.str s,V.int .i64 ((a0 + ((s.drop a0).takeWhile fun c=>p c.toNat).length:Nat):Int),V.int .i64 cR] 0 false:=by
    intro q
    rw [q,List.append_nil] at bA
    rw [bA,List.length_take,List.length_drop]
    refine ⟨rfl,hm,?_⟩
    rw [show a0+min (a-a0) (s.length-a0)=a from by omega]
   have f0:(0≤(a0:Int))=True:=eq_true (by omega)
   have f1:((a0:Int)≤(a:Int))=True:=eq_true (by omega)
   have f2:((a:Int)≤(s.length:Int))=True:=eq_true (by omega)
   have f3:(0≤(a:Int))=True:=eq_true (by omega)
   by_cases fU:(a:Int) < (s.length:Int)
   · have aW:a<s.length:=by omega
     rw [drop_cons aW,List.takeWhile_cons] at bA fin
     simp +contextual only [a7,if_false,bQ,bS,hd,aE,fU,f0,f1,f2,f3,List.getElem?_eq_getElem aW,Int.toNat_natCast,↓aA,aI,simprocAttr]
     refine hK (ag _ _) ?_
     cases oT:p ((s[a]).toNat:Int) with
     | true=>
       rw [oT] at bA
       have bP:IntKind.i64.wrap ((a:Int)+1)=((a+1:Nat):Int):=by rw [wrap_i64 (by omega) (by omega)];rfl
       simp +contextual only [oT,bQ,bS,hd,aE,fU,f0,f1,f2,f3,bP,List.getElem?_eq_getElem aW,Int.toNat_natCast,↓aA,aI,simprocAttr]
       refine ⟨⟨a+1,by omega,by omega,rfl,hm.set (fun _=>rfl) _,?_⟩,by omega⟩
       rw [bA,if_pos rfl]
       have FM:a-a0 < (s.drop a0).length:=by rw [List.length_drop];omega
       rw [show a+1-a0=a-a0+1 from by omega,←List.take_append_getElem FM,List.append_assoc]
       congr 1
       rw [List.getElem_drop]
       simp only [show a0 + (a-a0)=a from by omega]
       rfl
     | false=>
       rw [oT] at fin
       simp +contextual only [oT,bQ,bS,hd,aE,fU,f0,f1,f2,f3,List.getElem?_eq_getElem aW,Int.toNat_natCast,↓aA,aI,simprocAttr]
       exact fin rfl
   · have bd:a=s.length:=by omega
     simp +contextual only [a7,if_false,bQ,bS,hd,aE,fU,f0,f1,f2,f3,Int.toNat_natCast,↓aA,aI,simprocAttr]
     refine fin ?_
     rw [bd,List.drop_length]
     rfl
end Go.Proofs.YthemdhlheglhoaaGreatDoor
