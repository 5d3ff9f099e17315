/- The chapter's functions, walked by the abstract machine: plain lemmas, no condition. Printed by a program from longer texts: names made short. -/
import Derived.Test.YthemdhlheglhoaaGreatDoorM7
import Derived.Test.YthemdhlheglhoaaGreatDoorM4
import Derived.Test.YthemdhlheglhoaaGreatDoorM5
import Derived.WalkSmall
import Derived.Test.YthemdhlheglhoaaGreatDoorM6
import Derived.Shelf.Strings.Search3
import Derived.Shelf.Strings.OnBuilder
import Derived.Shelf.SlIterI.Nil
import Derived.Shelf.SortM.Plain
import Derived.Shelf.SortM.SortNone
import Derived.MakeChecks
import Derived.Shelf.Vars
import Derived.Lay
import Derived.LaidLaws
import Derived.Lib.LaidTab
import Derived.Lib.LaidU8T
import Derived.Test.YthemdhlheglhoaaGreatDoorRows
set_option linter.unusedSectionVars false
set_option linter.unusedSimpArgs false
set_option linter.unusedVariables false
namespace Go.Proofs.YthemdhlheglhoaaGreatDoor
open Go a6 Go.RowKit
theorem vR {w:World} {p:Addr} {v:Value} (h:w.cell? p=some v):p.block<w.heap.size:=by
 unfold World.cell? at h
 by_cases q:p.block<w.heap.size
 · exact q
 · rw [Array.getElem?_eq_none (by omega)] at h
   cases h
def sT (w:World) (g:Nat):Prop:=∃aW,w.cell? ⟨g,0,none⟩=some aW∧(aW=.nilIface∨∃aew MR,aW=.iface aew MR)
theorem sT.fO {w aj:World} {g:Nat} (h:sT w g) (ah:Below w.heap.size w aj):sT aj g:=by
 obtain ⟨aW,aa,ae⟩:=h
 exact ⟨aW,by rw [ah.cell (vR aa)];exact aa,ae⟩
structure BG (w:World):Prop where
 OI:Lib.Utf8Tabs 2 3 w
 maxLen:∃m,w.cell? ⟨0,0,none⟩=some (.int .i64 m)
 JA:sT w 7
 MZ:Lib.TabIs Tryz.prog w "internal/strconv.uint64pow10" .u64 Lib.pow10Tab
noncomputable instance lay:Lay where
 ok w:=BG w
 fO:=by
  intro w aj h ah
  refine ⟨?_,?_,h.JA.fO ah,?_⟩
  · obtain ⟨aa,ae⟩:=h.OI
    refine ⟨fun c aF=>?_,fun i aD=>?_⟩
    · rw [ah.cell (vR (aa c aF))]
      exact aa c aF
    · obtain ⟨au,aC⟩:=ae i aD
      rw [ah.cell (vR au),ah.cell (vR aC)]
      exact ⟨au,aC⟩
  · obtain ⟨m,q⟩:=h.maxLen
    exact ⟨m,by rw [ah.cell (vR q)];exact q⟩
  · have aE:Tryz.prog.globalNamed "internal/strconv.uint64pow10"=some 1:=by kernel_rfl
    have ai:1<w.heap.size:=by
     have q:=h.MZ
     unfold Lib.TabIs World.var? at q
     rw [aE] at q
     by_cases aP:1<w.heap.size
     · exact aP
     · simp only [Option.bind_some] at q
       rw [Array.getElem?_eq_none (by omega)] at q
       cases q
    exact var?_below ah aE ai h.MZ
section
open Go.Shelf
def Tryz.aaJ:Go.Shelf.Ren:=⟨fun | 144=>159 | 143=>167 | 219=>177 | 217=>138 | 225=>181 | 224=>182 | 267=>183 | 266=>153 | 314=>184 | n=>n,fun | 9=>9 | 4=>4 | 3=>3 | 5=>5 | 46=>141 | 146=>221 | 51=>164 | n=>n,fun | 1=>0 | n=>n⟩
theorem Tryz.aaI:Go.Proofs.Lays.n144 Tryz.prog Tryz.aaJ:={
 mixed:=by kernel_rfl,
 f143:=Tryz.func167.trans (congrArg some (by kernel_rfl)),
 f144:=Tryz.func159.trans (congrArg some (by kernel_rfl)),
 f217:=Tryz.func138.trans (congrArg some (by kernel_rfl)),
 f219:=Tryz.func177.trans (congrArg some (by kernel_rfl)),
 f224:=Tryz.func182.trans (congrArg some (by kernel_rfl)),
 f225:=Tryz.func181.trans (congrArg some (by kernel_rfl)),
 f266:=Tryz.func153.trans (congrArg some (by kernel_rfl)),
 f267:=Tryz.func183.trans (congrArg some (by kernel_rfl)),
 f314:=Tryz.func184.trans (congrArg some (by kernel_rfl)),
 t3:=Tryz.underlying3,
 a3:=Tryz.isAgg3,
 z3:=Tryz.sizeOf3,
 v3:=Tryz.zeroValue3,
 t4:=Tryz.underlying4,
 a4:=Tryz.isAgg4,
 z4:=Tryz.sizeOf4,
 v4:=Tryz.zeroValue4,
 t5:=Tryz.underlying5,
 a5:=Tryz.isAgg5,
 z5:=Tryz.sizeOf5,
 v5:=Tryz.zeroValue5,
 t9:=Tryz.underlying9,
 a9:=Tryz.isAgg9,
 z9:=Tryz.sizeOf9,
 v9:=Tryz.zeroValue9,
 t46:=Tryz.underlying141,
 a46:=Tryz.isAgg141,
 z46:=Tryz.sizeOf141,
 v46:=Tryz.zeroValue141,
 t51:=Tryz.underlying164,
 a51:=Tryz.isAgg164,
 z51:=Tryz.sizeOf164,
 v51:=Tryz.zeroValue164,
 t146:=Tryz.underlying221,
 a146:=Tryz.isAgg221,
 z146:=Tryz.sizeOf221,
 v146:=Tryz.zeroValue221,
 g1:=by kernel_rfl}
def Tryz.LG:Go.Shelf.Ren:=⟨fun | 156=>72 | 165=>95 | 166=>96 | 169=>97 | 240=>110 | 241=>111 | 276=>129 | 277=>130 | n=>n,fun | 31=>98 | 9=>9 | 3=>3 | 4=>4 | 0=>0 | 20=>20 | 72=>130 | 76=>134 | 70=>127 | 37=>128 | 75=>133 | 127=>155 | 164=>174 | 5=>5 | 80=>136 | n=>n,fun | n=>n⟩
theorem Tryz.LF:Go.Proofs.Lays.n156 Tryz.prog Tryz.LG:={
 mixed:=by kernel_rfl,
 f156:=Tryz.func72.trans (congrArg some (by kernel_rfl)),
 f165:=Tryz.func95.trans (congrArg some (by kernel_rfl)),
 f166:=Tryz.func96.trans (congrArg some (by kernel_rfl)),
 f169:=Tryz.func97.trans (congrArg some (by kernel_rfl)),
 f240:=Tryz.func110.trans (congrArg some (by kernel_rfl)),
 f241:=Tryz.func111.trans (congrArg some (by kernel_rfl)),
 f276:=Tryz.func129.trans (congrArg some (by kernel_rfl)),
 f277:=Tryz.func130.trans (congrArg some (by kernel_rfl)),
 t0:=Tryz.underlying0,
 a0:=Tryz.isAgg0,
 z0:=Tryz.sizeOf0,
 v0:=Tryz.zeroValue0,
 t3:=Tryz.underlying3,
 a3:=Tryz.isAgg3,
 z3:=Tryz.sizeOf3,
 v3:=Tryz.zeroValue3,
 t4:=Tryz.underlying4,
 a4:=Tryz.isAgg4,
 z4:=Tryz.sizeOf4,
 v4:=Tryz.zeroValue4,
 t9:=Tryz.underlying9,
 a9:=Tryz.isAgg9,
 z9:=Tryz.sizeOf9,
 v9:=Tryz.zeroValue9,
 t20:=Tryz.underlying20,
 a20:=Tryz.isAgg20,
 z20:=Tryz.sizeOf20,
 v20:=Tryz.zeroValue20,
 t31:=Tryz.underlying98,
 a31:=Tryz.isAgg98,
 z31:=Tryz.sizeOf98,
 v31:=Tryz.zeroValue98,
 t37:=Tryz.underlying128,
 a37:=Tryz.isAgg128,
 z37:=Tryz.sizeOf128,
 v37:=Tryz.zeroValue128,
 t70:=Tryz.underlying127,
 a70:=Tryz.isAgg127,
 z70:=Tryz.sizeOf127,
 v70:=Tryz.zeroValue127,
 t72:=Tryz.underlying130,
 a72:=Tryz.isAgg130,
 z72:=Tryz.sizeOf130,
 v72:=Tryz.zeroValue130,
 t75:=Tryz.underlying133,
 a75:=Tryz.isAgg133,
 z75:=Tryz.sizeOf133,
 v75:=Tryz.zeroValue133,
 t76:=Tryz.underlying134,
 a76:=Tryz.isAgg134,
 z76:=Tryz.sizeOf134,
 v76:=Tryz.zeroValue134,
 t127:=Tryz.underlying155,
 a127:=Tryz.isAgg155,
 z127:=Tryz.sizeOf155,
 v127:=Tryz.zeroValue155,
 t164:=Tryz.underlying174,
 a164:=Tryz.isAgg174,
 z164:=Tryz.sizeOf174,
 v164:=Tryz.zeroValue174}
theorem Tryz.JC:Builder.Extra Tryz.prog Tryz.LG where
 sizeBuilder:=by kernel_rfl
 liesBuilder:=by kernel_rfl
 t5:=Tryz.underlying5
 a5:=Tryz.isAgg5
 z5:=Tryz.sizeOf5
 v5:=Tryz.zeroValue5
 infoByte:=by kernel_rfl
 cellsByte:=by kernel_rfl
 sizeByte:=by kernel_rfl
 neB5:=by decide
def Tryz.Lv:Go.Shelf.Ren:=⟨fun | 7=>51 | 10=>78 | n=>n,fun | 23=>65 | 26=>3 | 3=>67 | 28=>76 | 0=>0 | 27=>75 | 33=>111 | 4=>4 | n=>n,fun | n=>n⟩
theorem Tryz.ZU:Go.Proofs.SlLaysZI.n7 Tryz.prog Tryz.Lv where
 mixed:=by kernel_rfl
 f7:=⟨"maps.Keys[gimlet/types.maker,int,*gimlet/types.node]",by decide,Tryz.func51.trans (congrArg some (by kernel_rfl))⟩
 f10:=⟨"maps.Keys[gimlet/types.maker,int,*gimlet/types.node]$1",by decide,Tryz.func78.trans (congrArg some (by kernel_rfl))⟩
 t0:=Tryz.underlying0
 a0:=Tryz.isAgg0
 z0:=Tryz.sizeOf0
 v0:=Tryz.zeroValue0
 t4:=Tryz.underlying4
 a4:=Tryz.isAgg4
 z4:=Tryz.sizeOf4
 v4:=Tryz.zeroValue4
 t23:=Tryz.underlying65
 a23:=Tryz.isAgg65
 z23:=Tryz.sizeOf65
 v23:=Tryz.zeroValue65
 t26:=Tryz.underlying3
 a26:=Tryz.isAgg3
 z26:=Tryz.sizeOf3
 v26:=Tryz.zeroValue3
 t27:=Tryz.underlying75
 a27:=Tryz.isAgg75
 z27:=Tryz.sizeOf75
 v27:=Tryz.zeroValue75
 t28:=Tryz.underlying76
 a28:=Tryz.isAgg76
 z28:=Tryz.sizeOf76
 v28:=Tryz.zeroValue76
 t33:=Tryz.underlying111
 a33:=Tryz.isAgg111
 z33:=Tryz.sizeOf111
 v33:=Tryz.zeroValue111
def Tryz.N8:Go.Shelf.Ren:=⟨fun | 6=>50 | 8=>76 | 9=>77 | 11=>100 | 13=>102 | 12=>101 | 23=>121 | 24=>122 | 14=>112 | 15=>113 | 16=>114 | 17=>115 | 18=>116 | 19=>117 | 20=>118 | 21=>119 | 22=>120 | 25=>131 | 26=>132 | 27=>133 | 28=>134 | 29=>135 | 30=>136 | 31=>151 | n=>n,fun | 26=>3 | 28=>76 | 24=>51 | 0=>0 | 3=>3 | 37=>141 | 48=>164 | 50=>166 | 4=>4 | 40=>158 | 39=>157 | 45=>112 | 5=>5 | 9=>9 | 51=>177 | 55=>90 | 57=>190 | 58=>92 | 33=>111 | n=>n,fun | n=>n⟩
theorem Tryz.ad8:Go.Proofs.SlLaysZI.n6 Tryz.prog Tryz.N8 where
 mixed:=by kernel_rfl
 f6:=⟨"slices.Sorted[int]",by decide,Tryz.func50.trans (congrArg some (by kernel_rfl))⟩
 f8:=⟨"slices.Collect[int]",by decide,Tryz.func76.trans (congrArg some (by kernel_rfl))⟩
 f11:=⟨"slices.AppendSeq[[]int,int]",by decide,Tryz.func100.trans (congrArg some (by kernel_rfl))⟩
 t0:=Tryz.underlying0
 a0:=Tryz.isAgg0
 z0:=Tryz.sizeOf0
 v0:=Tryz.zeroValue0
 t24:=Tryz.underlying51
 a24:=Tryz.isAgg51
 z24:=Tryz.sizeOf51
 v24:=Tryz.zeroValue51
 t26:=Tryz.underlying3
 a26:=Tryz.isAgg3
 z26:=Tryz.sizeOf3
 v26:=Tryz.zeroValue3
 t28:=Tryz.underlying76
 a28:=Tryz.isAgg76
 z28:=Tryz.sizeOf76
 v28:=Tryz.zeroValue76
 i26:=by kernel_rfl
def Tryz.ad6:Go.Shelf.Ren:=⟨fun | 5=>77 | 8=>102 | 7=>101 | 19=>121 | 20=>122 | 10=>112 | 11=>113 | 12=>114 | 13=>115 | 14=>116 | 15=>117 | 16=>118 | 17=>119 | 18=>120 | 30=>131 | 31=>132 | 32=>133 | 33=>134 | 34=>135 | 35=>136 | 40=>151 | n=>n,fun | 23=>51 | 25=>3 | 3=>3 | 32=>141 | 22=>51 | 0=>0 | 44=>164 | 46=>166 | 4=>4 | 36=>158 | 35=>157 | 41=>112 | 5=>5 | 9=>9 | 53=>177 | 57=>90 | 63=>190 | 64=>92 | n=>n,fun | n=>n⟩
theorem Tryz.N6:Go.Proofs.SlLaysM.n5 Tryz.prog Tryz.ad6 where
 mixed:=by kernel_rfl
 f5:=⟨"slices.Sort[[]int,int]",by decide,Tryz.func77.trans (congrArg some (by kernel_rfl))⟩
 f7:=⟨"slices.pdqsortOrdered[int]",by decide,Tryz.func101.trans (congrArg some (by kernel_rfl))⟩
 f8:=Tryz.func102.trans (congrArg some (by kernel_rfl))
 f10:=⟨"slices.insertionSortOrdered[int]",by decide,Tryz.func112.trans (congrArg some (by kernel_rfl))⟩
 f11:=⟨"slices.heapSortOrdered[int]",by decide,Tryz.func113.trans (congrArg some (by kernel_rfl))⟩
 f12:=⟨"slices.breakPatternsOrdered[int]",by decide,Tryz.func114.trans (congrArg some (by kernel_rfl))⟩
 f13:=⟨"slices.choosePivotOrdered[int]",by decide,Tryz.func115.trans (congrArg some (by kernel_rfl))⟩
 f14:=⟨"slices.reverseRangeOrdered[int]",by decide,Tryz.func116.trans (congrArg some (by kernel_rfl))⟩
 f15:=⟨"slices.partialInsertionSortOrdered[int]",by decide,Tryz.func117.trans (congrArg some (by kernel_rfl))⟩
 f16:=⟨"cmp.Less[int]",by decide,Tryz.func118.trans (congrArg some (by kernel_rfl))⟩
 f17:=⟨"slices.partitionEqualOrdered[int]",by decide,Tryz.func119.trans (congrArg some (by kernel_rfl))⟩
 f18:=⟨"slices.partitionOrdered[int]",by decide,Tryz.func120.trans (congrArg some (by kernel_rfl))⟩
 f19:=Tryz.func121.trans (congrArg some (by kernel_rfl))
 f20:=Tryz.func122.trans (congrArg some (by kernel_rfl))
 f30:=⟨"slices.siftDownOrdered[int]",by decide,Tryz.func131.trans (congrArg some (by kernel_rfl))⟩
 f31:=Tryz.func132.trans (congrArg some (by kernel_rfl))
 f32:=Tryz.func133.trans (congrArg some (by kernel_rfl))
 f33:=⟨"slices.medianAdjacentOrdered[int]",by decide,Tryz.func134.trans (congrArg some (by kernel_rfl))⟩
 f34:=⟨"slices.medianOrdered[int]",by decide,Tryz.func135.trans (congrArg some (by kernel_rfl))⟩
 f35:=⟨"cmp.isNaN[int]",by decide,Tryz.func136.trans (congrArg some (by kernel_rfl))⟩
 f40:=⟨"slices.order2Ordered[int]",by decide,Tryz.func151.trans (congrArg some (by kernel_rfl))⟩
 t0:=Tryz.underlying0
 a0:=Tryz.isAgg0
 z0:=Tryz.sizeOf0
 v0:=Tryz.zeroValue0
 t3:=Tryz.underlying3
 a3:=Tryz.isAgg3
 z3:=Tryz.sizeOf3
 v3:=Tryz.zeroValue3
 t4:=Tryz.underlying4
 a4:=Tryz.isAgg4
 z4:=Tryz.sizeOf4
 v4:=Tryz.zeroValue4
 t5:=Tryz.underlying5
 a5:=Tryz.isAgg5
 z5:=Tryz.sizeOf5
 v5:=Tryz.zeroValue5
 t9:=Tryz.underlying9
 a9:=Tryz.isAgg9
 z9:=Tryz.sizeOf9
 v9:=Tryz.zeroValue9
 t22:=Tryz.underlying51
 a22:=Tryz.isAgg51
 z22:=Tryz.sizeOf51
 v22:=Tryz.zeroValue51
 t23:=Tryz.underlying51
 a23:=Tryz.isAgg51
 z23:=Tryz.sizeOf51
 v23:=Tryz.zeroValue51
 t25:=Tryz.underlying3
 a25:=Tryz.isAgg3
 z25:=Tryz.sizeOf3
 v25:=Tryz.zeroValue3
 t32:=Tryz.underlying141
 a32:=Tryz.isAgg141
 z32:=Tryz.sizeOf141
 v32:=Tryz.zeroValue141
 t35:=Tryz.underlying157
 a35:=Tryz.isAgg157
 z35:=Tryz.sizeOf157
 v35:=Tryz.zeroValue157
 t36:=Tryz.underlying158
 a36:=Tryz.isAgg158
 z36:=Tryz.sizeOf158
 v36:=Tryz.zeroValue158
 t41:=Tryz.underlying112
 a41:=Tryz.isAgg112
 z41:=Tryz.sizeOf112
 v41:=Tryz.zeroValue112
 t44:=Tryz.underlying164
 a44:=Tryz.isAgg164
 z44:=Tryz.sizeOf164
 v44:=Tryz.zeroValue164
 t46:=Tryz.underlying166
 a46:=Tryz.isAgg166
 z46:=Tryz.sizeOf166
 v46:=Tryz.zeroValue166
 t53:=Tryz.underlying177
 a53:=Tryz.isAgg177
 z53:=Tryz.sizeOf177
 v53:=Tryz.zeroValue177
 t57:=Tryz.underlying90
 a57:=Tryz.isAgg90
 z57:=Tryz.sizeOf90
 v57:=Tryz.zeroValue90
 t63:=Tryz.underlying190
 a63:=Tryz.isAgg190
 z63:=Tryz.sizeOf190
 v63:=Tryz.zeroValue190
 t64:=Tryz.underlying92
 a64:=Tryz.isAgg92
 z64:=Tryz.sizeOf92
 v64:=Tryz.zeroValue92
theorem IV (s sub:ByteArray) (m:Int) (w:World) (aQ:s.size<4294967281) (hm:w.cell? ⟨0,0,none⟩=some (.int .i64 m)):
 Calls Tryz.prog 159 #[.string s,.string sub] w fun e aj=>e=.returned (.bool (Lib.contains s.data.toList sub.data.toList))∧aj=w:=Any.strings_Contains Tryz.aaI s sub m w aQ hm
end
section
open Go.RowKit Go.Maps Go.Sort Go.Shelf
theorem ad_ (m:Nat):AnyZI.SortsIn Tryz.prog Tryz.N8 Fence.wide m:=
 ⟨fun a8 off cap ey W jm iw b5=>callsIn_wide.2 (AnyM.slices_Sort_int Tryz.N6 a8 off cap ey W jm iw b5),
  fun p cap W=>callsIn_wide.2 (AnyM.slices_Sort_int_none Tryz.N6 p cap W)⟩
theorem ad9:a6.HL Tryz.prog 50 78 3:=by
 intro qT b FP pB R w V9 rK gk tR Wu
 have XQ:SeqGives Fence.wide 2 Tryz.prog 78 #[.pointer (some ⟨qT,0,none⟩)] encZ (fun ey=>ey.Perm (intKeys pB)) (Maps.size pB) w:=
  AnyZI.keys_gives (ρ:=Tryz.Lv) {Tryz.ZU with} Fence.wide _ trivial rfl (by omega) qT b FP pB w V9 rK gk
 have Db:=AnyZI.sorted_in Tryz.ad8 Fence.wide 5 trivial trivial trivial trivial rfl (by omega) (ad_ _) (enters_of Tryz.func77 (by kernel_rfl) rfl) 78 #[.pointer (some ⟨qT,0,none⟩)] trivial (enters_of Tryz.func78 (by kernel_rfl) rfl) _ _ tR Wu _ XQ
 change CallsIn _ _ Tryz.prog 50 _ _ _ at Db
 exact callsIn_wide.1 (Db.mono fun e aj q=>by
  obtain ⟨v,ey,rfl,dq,EX,p7,ah⟩:=q
  exact ⟨v,ey,rfl,dq,EX,p7,ah⟩)
end
theorem YM:BB Tryz.prog 72:=
 ⟨fun vP o c xs sep w aa ae aI bo cI=>Go.Proofs.Any.strings_Join Tryz.LF Tryz.JC vP o c xs sep w aa ae aI bo cI,fun a c sep w=>Go.Proofs.Any.strings_Join_none Tryz.LF Tryz.JC a c sep w⟩
noncomputable def ctx:Ctx:=⟨Tryz.prog,fun f=>bif Nat.beq f 159 then some Di else bif Nat.beq f 50 then some (GW 78) else bif Nat.beq f 72 then some Fs else none,fun f=>bif Nat.beq f 153 then some zS else none⟩
theorem follows:ctx.P.follows .mixedOrders=true:=by kernel_rfl
theorem dc:ea ctx.P:=by
 intro f fn av
 have dL:(Tryz.prog.funcs.toList.all fun fn=>!(fn.name == "runtime.NumGoroutine"))=true:=by kernel_rfl
 have:=List.all_eq_true.1 dL fn (Array.mem_toList_iff.2 (Array.mem_of_getElem? av))
 simpa using this
theorem acO:ox ctx:=by
 refine ⟨fun f p args h v ab ag he=>?_,fun f p args h v ab ag he ar E w xs al s=>?_⟩
 · simp only [ctx,gM] at ag
   by_cases av:f=159
   · rw [if_pos av] at ag
     cases ag
     subst av
     obtain ⟨s,sub,rfl,aQ,rfl,rfl⟩:=Ug he
     refine ⟨⟨_,Tryz.func159,by kernel_rfl⟩,aaB fun E xs w ai al=>?_⟩
     obtain ⟨y,cu,rfl,au,z,h2,rfl,aC,rfl⟩:=al
     simp only [Rel] at au aC
     subst au aC
     obtain ⟨m,hm⟩:=ai.maxLen
     refine (IV ⟨⟨s⟩⟩ ⟨⟨sub⟩⟩ m w (by show s.length<4294967281;omega) hm).mono fun e aj q=>?_
     obtain ⟨rfl,rfl⟩:=q
     exact ⟨_,rfl,by simp only [Rel],Below.refl _ _⟩
   · rw [if_neg av] at ag
     by_cases av:f=50
     · rw [if_pos av] at ag
       cases ag
       subst av
       exact ⟨⟨_,Tryz.func50,by kernel_rfl⟩,fun ar E w xs al s=>ad' (by decide) Tryz.underlying3 ad9 he ar E w xs al s⟩
     · rw [if_neg av] at ag
       by_cases av:f=72
       · rw [if_pos av] at ag
         cases ag
         subst av
         exact ⟨⟨_,Tryz.func72,by kernel_rfl⟩,fun ar E w xs al s=>YL YM he ar E w xs al s⟩
       · rw [if_neg av] at ag;cases ag
 · simp only [ctx,gM] at ag
   by_cases av:f=153
   · rw [if_pos av] at ag
     cases ag
     subst av
     exact YA (P:=Tryz.prog) Tryz.func153 (by kernel_rfl) (by kernel_rfl) (by kernel_rfl) (by kernel_rfl) he ar E w xs al s
   · rw [if_neg av] at ag;cases ag
end Go.Proofs.YthemdhlheglhoaaGreatDoor
namespace Go.Proofs.YthemdhlheglhoaaGreatDoor
open Go a6
abbrev ak (d bj:Nat):bA:=⟨some d,.fh (.t bj),none,[bj]⟩
abbrev bP (d bj:Nat):bA:=⟨some d,.iB (.t bj),none,[bj]⟩
abbrev c_ (d bj:Nat):bA:=⟨some d,.qo (.t bj),none,[bj]⟩
abbrev dn (d bj:Nat):bA:=⟨some d,.iW 4 (.t bj),none,[bj]⟩
abbrev dG (d bj:Nat):bA:=⟨some d,.hy 1 (.t bj),none,[bj]⟩
abbrev dP (d bj bs:Nat):bA:=⟨some d,.fh (.t bj),(some (bs,true)),[bj,bs]⟩
abbrev dY (d bj bs:Nat):bA:=⟨some d,.pick (.t bj) (.t bs) (.c (.bool false)),none,[bj,bs]⟩
abbrev ep (d:Nat):bA:=⟨some d,.fh (.c (.int .i64 0)),none,[]⟩
abbrev eu (d bj:Nat):bA:=⟨some d,.bin (.int .add) (.t bj) (.c (.int .i64 1)),none,[bj]⟩
abbrev eC (d:Nat):bA:=⟨some d,.fh (.c (.bool false)),none,[]⟩
abbrev fq (d bj bs:Nat):bA:=⟨some d,.pick (.t bj) (.c (.bool true)) (.t bs),none,[bj,bs]⟩
abbrev fz (d bj bs:Nat):bA:=⟨some d,.iB (.t bj),(some (bs,true)),[bj,bs]⟩
abbrev fJ (d bj bs:Nat):bA:=⟨some d,.fh (.t bj),(some (bs,false)),[bj,bs]⟩
abbrev gv (d bj:Nat):bA:=⟨some d,.hy 0 (.t bj),none,[bj]⟩
abbrev gI (d bj bs:Nat):bA:=⟨some d,.bin (.int .lss) (.t bj) (.t bs),none,[bj,bs]⟩
abbrev gJ (d bj:Nat):bA:=⟨some d,.len .slice (.t bj),none,[bj]⟩
abbrev gK (d bj:Nat):bA:=⟨some d,.hy 3 (.t bj),none,[bj]⟩
abbrev hi (d:Nat):bA:=⟨some d,.new [(.int .i64 0),(.int .i64 0),(.str []),.b6],none,[]⟩
abbrev hr (d bj:Nat):bA:=⟨some d,.box (.t bj),none,[bj]⟩
abbrev jD (d bj:Nat):bA:=⟨some d,.ext (.t bj) 0,none,[bj]⟩
abbrev jE (d bj:Nat):bA:=⟨some d,.ext (.t bj) 1,none,[bj]⟩
abbrev jF (d:Nat):bA:=⟨some d,.fh (.c .b6),none,[]⟩
abbrev jG (d bj bs:Nat):bA:=⟨some d,.cH 4 (.t bj) (.t bs),none,[bj,bs]⟩
abbrev jH (d bj:Nat):bA:=⟨some d,.hy 2 (.t bj),none,[bj]⟩
abbrev kA (d bj:Nat):bA:=⟨some d,.len .str (.t bj),none,[bj]⟩
abbrev my (d bj:Nat):bA:=⟨some d,.jh 1 4 [(.int .i64 0),(.int .i64 0),(.str []),.b6] [(0,4,(.t bj))],none,[bj]⟩
abbrev oq (d bj bs:Nat):bA:=⟨some d,.cH 5 (.t bj) (.t bs),none,[bj,bs]⟩
abbrev pE (d bj bs:Nat):bA:=⟨some d,.app 4 (.t bj) (.t bs),none,[bj,bs]⟩
abbrev pF (d bj bs:Nat):bA:=⟨some d,.iW 4 (.t bj),(some (bs,false)),[bj,bs]⟩
abbrev pG (d bj:Nat):bA:=⟨some d,.un .not (.t bj),none,[bj]⟩
abbrev pH (d bj bs:Nat):bA:=⟨some d,.hy 1 (.t bj),(some (bs,true)),[bj,bs]⟩
abbrev pI (d bj bs:Nat):bA:=⟨some d,.hy 3 (.t bj),(some (bs,true)),[bj,bs]⟩
abbrev qZ (d:Nat):bA:=⟨some d,.fh (.c (.bool true)),none,[]⟩
abbrev q0 (d bj bs:Nat):bA:=⟨some d,.iB (.t bj),(some (bs,false)),[bj,bs]⟩
abbrev q1 (d bj bs:Nat):bA:=⟨some d,.hy 0 (.t bj),(some (bs,true)),[bj,bs]⟩
abbrev sV (d:Nat):bA:=⟨some d,.build [(.int .i64 0),(.int .i64 0),(.str []),.b6] [],none,[]⟩
abbrev sW (d bj bs:Nat):bA:=⟨some d,.hy 2 (.t bj),(some (bs,true)),[bj,bs]⟩
abbrev sX (d bj:Nat):bA:=⟨some d,.bin (.int .eql) (.t bj) (.c (.int .i64 1)),none,[bj]⟩
abbrev sY (d bj bs:Nat):bA:=⟨some d,.len .slice (.t bj),(some (bs,true)),[bj,bs]⟩
abbrev sZ (d bj bs:Nat):bA:=⟨some d,.qo (.t bj),(some (bs,true)),[bj,bs]⟩
abbrev vn (d bj:Nat):bA:=⟨some d,.call 12 [(.t bj)],none,[bj]⟩
abbrev vo (d bj bs ch:Nat):bA:=⟨some d,.bin (.int .eql) (.t bj) (.t bs),(some (ch,true)),[bj,bs,ch]⟩
abbrev vp (d:Nat):bA:=⟨some d,.fh (.c (.int .i64 1)),none,[]⟩
abbrev vq (d bj bs:Nat):bA:=⟨some d,.hy 1 (.t bj),(some (bs,false)),[bj,bs]⟩
abbrev vr (d:Nat):bA:=⟨some d,.new [(.int .i64 0)],none,[]⟩
abbrev vs (d bj bs:Nat):bA:=⟨some d,.bin (.int .neq) (.t bj) (.c (.int .i64 0)),(some (bs,false)),[bj,bs]⟩
abbrev vt (d bj bs:Nat):bA:=⟨some d,.bin (.int .add) (.t bj) (.t bs),none,[bj,bs]⟩
abbrev vu (d bj:Nat):bA:=⟨some d,.bin (.int .eql) (.t bj) (.c (.int .i64 0)),none,[bj]⟩
abbrev vv (d bj bs:Nat):bA:=⟨some d,.bin (.int .geq) (.t bj) (.t bs),none,[bj,bs]⟩
abbrev vw (d:Nat):bA:=⟨some d,.new [(.int .i64 0),(.int .i64 0),(.int .i64 0),(.str [])],none,[]⟩
abbrev x5 (d bj bs ch:Nat):bA:=⟨some d,.call 17 [(.t bj),(.t bs)],(some (ch,true)),[bj,bs,ch]⟩
abbrev x6 (d bj bs:Nat):bA:=⟨some d,.iW 4 (.t bj),(some (bs,true)),[bj,bs]⟩
abbrev x7 (d bj bs ch:Nat):bA:=⟨some d,.cH 5 (.t bj) (.t bs),(some (ch,false)),[bj,bs,ch]⟩
abbrev x8 (d bj:Nat):bA:=⟨some d,.bin (.int .gtr) (.t bj) (.c (.int .i64 4096)),none,[bj]⟩
abbrev x9 (d:Nat):bA:=⟨some d,.fh (.c (.int .i64 2)),none,[]⟩
abbrev x' (d bj:Nat):bA:=⟨some d,.bin (.int .geq) (.t bj) (.c (.int .i64 0)),none,[bj]⟩
abbrev x_ (d bj bs:Nat):bA:=⟨some d,.ko (.t bj) (.t bs),none,[bj,bs]⟩
abbrev ya (d bj:Nat):bA:=⟨some d,.ko (.t bj) (.c (.int .i64 0)),none,[bj]⟩
abbrev yb (d bj bs:Nat):bA:=⟨some d,.bin (.int .eql) (.t bj) (.c (.int .u8 95)),(some (bs,false)),[bj,bs]⟩
abbrev Br (d bj:Nat):bA:=⟨some d,.build [(.int .i64 0),(.int .i64 0),(.str []),.b6] [(0,1,(.c (.int .i64 1))),(1,1,(.t bj))],none,[bj]⟩
abbrev Bs (d bj bs:Nat):bA:=⟨some d,.bin (.int .eql) (.t bj) (.c (.int .i64 0)),(some (bs,true)),[bj,bs]⟩
abbrev Bt (d bj bs:Nat):bA:=⟨some d,.bin (.int .gtr) (.t bj) (.c (.int .i64 200)),(some (bs,false)),[bj,bs]⟩
abbrev Bu (d bj:Nat):bA:=⟨some d,.bin (.int .lss) (.t bj) (.c (.int .i64 0)),none,[bj]⟩
abbrev Bv (d bj bs ch:Nat):bA:=⟨some d,.bin (.str .eql) (.t bj) (.t bs),(some (ch,true)),[bj,bs,ch]⟩
abbrev Bw (d bj bs ch:Nat):bA:=⟨some d,.bin (.int .leq) (.t bj) (.t bs),(some (ch,true)),[bj,bs,ch]⟩
abbrev Bx (d bj bs ch:Nat):bA:=⟨some d,.pick (.t bj) (.t bs) (.c (.bool false)),(some (ch,false)),[bj,bs,ch]⟩
abbrev By (d bj:Nat):bA:=⟨some d,.call 106 [(.t bj),(.c (.int .u8 97)),(.c (.int .u8 122))],none,[bj]⟩
abbrev Bz (d bj bs:Nat):bA:=⟨some d,.od (.t bj) (some (.t bs)) none none,none,[bj,bs]⟩
abbrev BA (d:Nat):bA:=⟨some d,.build [(.int .i64 0),(.int .i64 0),(.int .i64 0),(.str [])] [],none,[]⟩
abbrev HD (d bj:Nat):bA:=⟨some d,.build [(.int .i64 0),(.int .i64 0),(.int .i64 0),(.str [])] [(0,1,(.c (.int .i64 7))),(3,1,(.t bj))],none,[bj]⟩
def c3:bz:=
 .seq (.aB [eC 4])
 (.seq (.seq (.aB [ak 12 0,⟨some 13,.call 10 [(.t 12),(.c (.int .i64 300))],none,[12]⟩,ak 14 13,fJ 15 1 14,⟨some 16,.call 10 [(.t 15),(.c (.int .i64 300))],(some (14,false)),[15,14]⟩,fq 17 14 16])
 (.cond (.t 17)
 (.seq (.aB [⟨some 18,.call 11 [],none,[]⟩,ak 4 18])
 (.ret))
 (.skip)))
 (.seq (.aB [ak 19 0,vn 20 19,ak 21 1,vn 22 21,ak 5 20,ak 6 22])
 (.seq (.aB [ak 24 5,ak 25 6,⟨some 26,.call 13 [(.t 24),(.t 25)],none,[24,25]⟩,ak 23 26,jD 27 23,jE 28 23,ak 7 27,ak 8 28])
 (.seq (.aB [ak 30 0,ak 31 1,⟨some 32,.call 14 [(.t 30),(.t 31)],none,[30,31]⟩,ak 29 32,jD 33 29,jE 34 29,ak 9 33,ak 10 34])
 (.seq (.aB [ak 35 7,ak 36 9,⟨some 37,.call 15 [(.t 35),(.t 36)],none,[35,36]⟩,ak 38 37,dP 39 8 38,dP 40 10 38,vo 41 39 40 38,dY 42 38 41,ak 11 42])
 (.seq (.aB [ak 43 7,⟨some 44,.call 16 [(.t 43)],none,[43]⟩])
 (.seq (.aB [ak 45 11,ak 46 45,dP 47 5 46,dP 48 0 46,x5 49 47 48 46,dY 50 46 49,ak 51 50,dP 52 6 51,dP 53 1 51,x5 54 52 53 51,dY 55 51 54,ak 56 55,⟨some 57,.call 11 [],(some (56,true)),[56]⟩,dY 58 56 57,ak 4 58])
 (.ret))))))))
def SX:bz:=
 .seq (.seq (.aB [ak 19 7,ak 20 0,gI 21 19 20])
 (.cond (.t 21)
 (.skip)
 (.exit 0)))
 (.seq (.block 1 (.seq (.aB [ak 24 7,eu 25 24,Br 26 25,hi 8,⟨none,.st 4 (.t 8) (.t 26),none,[8,26]⟩])
 (.seq (.aB [ak 27 5,ak 28 7,Br 29 28,my 30 29,pE 31 27 30,ak 5 31])
 (.aB [ak 32 6,dn 33 8,dn 34 8,⟨some 35,.jh 2 4 [(.int .i64 0),(.int .i64 0),(.str []),.b6] [(0,4,(.t 33)),(4,4,(.t 34))],none,[33,34]⟩,⟨some 36,.build [(.int .i64 0),(.int .i64 0),(.str []),.b6] [(0,1,(.c (.int .i64 2))),(2,1,(.c (.str [42]))),(3,1,(.t 35))],none,[35]⟩,my 37 36,pE 38 32 37,ak 6 38]))))
 (.aB [ak 22 7,eu 23 22,ak 7 23]))
def SY:bz:=
 .seq (.seq (.aB [ak 41 10,ak 42 1,gI 43 41 42])
 (.cond (.t 43)
 (.skip)
 (.exit 2)))
 (.seq (.block 3 (.aB [dn 46 9,my 47 46,⟨some 48,.build [(.int .i64 0),(.int .i64 0),(.str []),.b6] [(0,1,(.c (.int .i64 2))),(2,1,(.c (.str [114,101,102]))),(3,1,(.t 47))],none,[47]⟩,⟨none,.st 4 (.t 9) (.t 48),none,[9,48]⟩]))
 (.aB [ak 44 10,eu 45 44,ak 10 45]))
def dh:bz:=
 .seq (.aB [eC 4])
 (.seq (.aB [ak 15 0,⟨some 16,.call 18 [(.t 15),(.c (.int .i64 15))],none,[15]⟩,ak 17 1,⟨some 18,.call 18 [(.t 17),(.c (.int .i64 206))],none,[17]⟩,ak 0 16,ak 1 18])
 (.seq (.aB [jF 5,jF 6])
 (.seq (.seq (.aB [ep 7])
 (.block 0 (.loop SX)))
 (.seq (.aB [ak 39 0,Br 40 39,hi 9,⟨none,.st 4 (.t 9) (.t 40),none,[9,40]⟩])
 (.seq (.seq (.aB [vp 10])
 (.block 2 (.loop SY)))
 (.seq (.aB [ak 50 5,ak 51 6,⟨some 52,.call 13 [(.t 50),(.t 51)],none,[50,51]⟩,ak 49 52,jD 53 49,jE 54 49,ak 11 53,ak 12 54])
 (.seq (.aB [ak 56 5,ak 57 6,⟨some 58,.call 14 [(.t 56),(.t 57)],none,[56,57]⟩,ak 55 58,jD 59 55,jE 60 55,ak 13 59,ak 14 60])
 (.seq (.draw [ak 61 11,ak 62 13,⟨some 63,.call 15 [(.t 61),(.t 62)],none,[61,62]⟩,ak 64 63,dP 65 12 64,dP 66 14 64,vo 67 65 66 64,dY 68 64 67,ak 69 68,x6 70 9 69,x6 72 9 69,⟨some 71,.call 19 [(.t 70)],(some (69,true)),[70,69]⟩,⟨some 73,.call 20 [(.t 72)],(some (69,true)),[72,69]⟩,vo 74 71 73 69,dY 75 69 74,ak 76 75,x6 77 9 76,dP 80 1 76,⟨some 81,.bin (.int .leq) (.t 80) (.c (.int .i64 200)),(some (76,true)),[80,76]⟩,⟨some 78,.call 19 [(.t 77)],(some (76,true)),[77,76]⟩,Bs 79 78 76,⟨some 82,.bin (.tn false) (.t 79) (.t 81),(some (76,true)),[79,81,76]⟩,dY 83 76 82,ak 84 83,⟨some 85,.call 11 [],(some (84,true)),[84]⟩,dY 86 84 85,ak 4 86] [(9,[11]),(10,[11,12]),(16,[19])])
 (.ret)))))))))
def c5:bz:=
 .seq (.aB [hr 3 1,eC 4])
 (.seq (.seq (.aB [ak 12 0,⟨some 13,.call 21 [(.t 12),(.c (.int .i64 300))],none,[12]⟩,ak 14 13,pF 15 3 14,⟨some 16,.jh 1 4 [(.int .i64 0),(.int .i64 0),(.str []),.b6] [(0,4,(.t 15))],(some (14,false)),[15,14]⟩,⟨some 17,.call 10 [(.t 16),(.c (.int .i64 300))],(some (14,false)),[16,14]⟩,fq 18 14 17])
 (.cond (.t 18)
 (.seq (.aB [⟨some 19,.call 11 [],none,[]⟩,ak 4 19])
 (.ret))
 (.skip)))
 (.seq (.aB [dn 20 3,my 21 20,vn 22 21,ak 23 0,⟨some 24,.call 22 [(.t 23)],none,[23]⟩,ak 5 22,ak 6 24])
 (.seq (.aB [ak 26 6,ak 27 5,⟨some 28,.cH 4 (.t 27) (.c (.int .i64 0)),none,[27]⟩,dn 29 28,⟨some 30,.call 23 [(.t 26),(.t 29)],none,[26,29]⟩,ak 25 30,jD 31 25,jE 32 25,hi 7,⟨none,.st 4 (.t 7) (.t 31),none,[7,31]⟩,ak 8 32])
 (.seq (.aB [ak 34 0,dn 35 3,⟨some 36,.call 24 [(.t 34),(.t 35)],none,[34,35]⟩,ak 33 36,jD 37 33,jE 38 33,hi 9,⟨none,.st 4 (.t 9) (.t 37),none,[9,37]⟩,ak 10 38])
 (.seq (.aB [dn 39 7,dn 40 9,⟨some 41,.call 25 [(.t 39),(.t 40)],none,[39,40]⟩,ak 42 41,dP 43 8 42,dP 44 10 42,vo 45 43 44 42,dY 46 42 45,ak 11 46])
 (.seq (.aB [dn 47 7,my 48 47,⟨some 49,.call 26 [(.t 48)],none,[48]⟩])
 (.seq (.aB [ak 50 11,ak 51 50,dP 52 5 51,x6 53 3 51,⟨some 54,.jh 1 4 [(.int .i64 0),(.int .i64 0),(.str []),.b6] [(0,4,(.t 53))],(some (51,true)),[53,51]⟩,x5 55 52 54 51,dY 56 51 55,ak 57 56,dP 58 6 57,dP 59 0 57,⟨some 60,.call 15 [(.t 58),(.t 59)],(some (57,true)),[58,59,57]⟩,dY 61 57 60,ak 62 61,⟨some 63,.call 11 [],(some (62,true)),[62]⟩,dY 64 62 63,ak 4 64])
 (.ret))))))))
theorem Ta:cc Tryz.prog Tryz.f5.ntmps (Tryz.f5.body.getD .skip)=c5:=by kernel_rfl
theorem Tb:cV Tryz.prog Tryz.f5.ntmps Tryz.f5.results.toList=[.t 4]:=by kernel_rfl
theorem S_ {args:List V} {h:af} {K:V→af→Prop} (ai:Nat.ble args.length 65=true) (H:b_ Tryz.prog c5 (aR.bb args) h fun e r ab=>e.ends∧∃ad,cL r ab [.t 4]=some ad∧K (oneOf ad) ab):bI Tryz.prog 5 args h K:=
 dy follows dc Tryz.func5 (c:=Tryz.f5.body.getD .skip) (by kernel_rfl) (by kernel_rfl) (by kernel_rfl) ai Ta Tb (by kernel_rfl) H
def Ch:bz:=
 .seq (.aB [eC 4])
 (.seq (.aB [ak 5 0,ak 6 1,⟨some 7,.call 46 [(.t 5),(.t 6)],none,[5,6]⟩,ak 8 1,⟨some 9,.bin (.int .gtr) (.t 7) (.t 8),none,[7,8]⟩,ak 4 9])
 (.ret))
theorem Rk:cc Tryz.prog Tryz.f10.ntmps (Tryz.f10.body.getD .skip)=Ch:=by kernel_rfl
theorem Rl:cV Tryz.prog Tryz.f10.ntmps Tryz.f10.results.toList=[.t 4]:=by kernel_rfl
theorem Rj {args:List V} {h:af} {K:V→af→Prop} (ai:Nat.ble args.length 10=true) (H:b_ Tryz.prog Ch (aR.bb args) h fun e r ab=>e.ends∧∃ad,cL r ab [.t 4]=some ad∧K (oneOf ad) ab):bI Tryz.prog 10 args h K:=
 dy follows dc Tryz.func10 (c:=Tryz.f10.body.getD .skip) (by kernel_rfl) (by kernel_rfl) (by kernel_rfl) ai Rk Rl (by kernel_rfl) H
def Ip:bz:=
 .seq (.seq (.aB [ak 6 4,ak 7 0,gJ 8 7,gI 9 6 8])
 (.cond (.t 9)
 (.skip)
 (.exit 0)))
 (.seq (.block 1 (.seq (.aB [ak 12 0,ak 13 4,jG 14 12 13,dn 15 14,hi 5,⟨none,.st 4 (.t 5) (.t 15),none,[5,15]⟩])
 (.seq (.aB [ak 16 0,ak 17 4,jG 18 16 17,gK 19 18,bP 20 19,vn 21 20,gK 22 5,⟨none,.st 1 (.t 22) (.t 21),none,[22,21]⟩])
 (.aB [ak 23 3,dn 24 5,my 25 24,pE 26 23 25,ak 3 26]))))
 (.aB [ak 10 4,eu 11 10,ak 4 11]))
def Cn:bz:=
 .seq (.aB [jF 2])
 (.seq (.aB [jF 3])
 (.seq (.seq (.aB [ep 4])
 (.block 0 (.loop Ip)))
 (.seq (.aB [ak 27 3,ak 2 27])
 (.ret))))
theorem RC:cc Tryz.prog Tryz.f12.ntmps (Tryz.f12.body.getD .skip)=Cn:=by kernel_rfl
theorem RD:cV Tryz.prog Tryz.f12.ntmps Tryz.f12.results.toList=[.t 2]:=by kernel_rfl
theorem RB {args:List V} {h:af} {K:V→af→Prop} (ai:Nat.ble args.length 28=true) (H:b_ Tryz.prog Cn (aR.bb args) h fun e r ab=>e.ends∧∃ad,cL r ab [.t 2]=some ad∧K (oneOf ad) ab):bI Tryz.prog 12 args h K:=
 dy follows dc Tryz.func12 (c:=Tryz.f12.body.getD .skip) (by kernel_rfl) (by kernel_rfl) (by kernel_rfl) ai RC RD (by kernel_rfl) H
def Is:bz:=
 .seq (.seq (.aB [ak 11 5,ak 12 0,gJ 13 12,gI 14 11 13])
 (.cond (.t 14)
 (.skip)
 (.exit 0)))
 (.seq (.block 1 (.seq (.draw [ak 17 0,ak 18 5,oq 19 17 18,gv 20 19,bP 21 20,ak 22 1,ak 23 5,oq 24 22 23,gv 25 24,bP 26 25,⟨some 27,.bin (.int .neq) (.t 21) (.t 26),none,[21,26]⟩,ak 28 27,fJ 29 0 28,fJ 30 5 28,x7 31 29 30 28,vq 32 31 28,pF 33 32 28,fJ 34 1 28,fJ 35 5 28,x7 36 34 35 28,vq 37 36 28,pF 38 37 28,⟨some 39,.call 25 [(.t 33),(.t 38)],(some (28,false)),[33,38,28]⟩,⟨some 40,.un .not (.t 39),(some (28,false)),[39,28]⟩,fq 41 28 40] [(4,[22]),(9,[22]),(16,[22]),(21,[22])])
 (.cond (.t 41)
 (.seq (.aB [eC 4])
 (.ret))
 (.skip))))
 (.aB [ak 15 5,eu 16 15,ak 5 16]))
def CB:bz:=
 .seq (.aB [eC 4])
 (.seq (.seq (.aB [ak 6 0,gJ 7 6,ak 8 1,gJ 9 8,⟨some 10,.bin (.int .neq) (.t 7) (.t 9),none,[7,9]⟩])
 (.cond (.t 10)
 (.seq (.aB [eC 4])
 (.ret))
 (.skip)))
 (.seq (.seq (.aB [ep 5])
 (.block 0 (.loop Is)))
 (.seq (.aB [qZ 4])
 (.ret))))
theorem Sh:cc Tryz.prog Tryz.f15.ntmps (Tryz.f15.body.getD .skip)=CB:=by kernel_rfl
theorem Si:cV Tryz.prog Tryz.f15.ntmps Tryz.f15.results.toList=[.t 4]:=by kernel_rfl
theorem Sg {args:List V} {h:af} {K:V→af→Prop} (ai:Nat.ble args.length 42=true) (H:b_ Tryz.prog CB (aR.bb args) h fun e r ab=>e.ends∧∃ad,cL r ab [.t 4]=some ad∧K (oneOf ad) ab):bI Tryz.prog 15 args h K:=
 dy follows dc Tryz.func15 (c:=Tryz.f15.body.getD .skip) (by kernel_rfl) (by kernel_rfl) (by kernel_rfl) ai Sh Si (by kernel_rfl) H
def It:bz:=
 .seq (.seq (.aB [ak 11 5,ak 12 0,gJ 13 12,gI 14 11 13])
 (.cond (.t 14)
 (.skip)
 (.exit 0)))
 (.seq (.block 1 (.seq (.draw [ak 17 0,ak 18 5,jG 19 17 18,dn 20 19,ak 21 1,ak 22 5,jG 23 21 22,dn 24 23,⟨some 25,.call 25 [(.t 20),(.t 24)],none,[20,24]⟩,pG 26 25] [(3,[8]),(7,[8])])
 (.cond (.t 26)
 (.seq (.aB [eC 4])
 (.ret))
 (.skip))))
 (.aB [ak 15 5,eu 16 15,ak 5 16]))
def oI:bz:=
 .seq (.aB [eC 4])
 (.seq (.seq (.aB [ak 6 0,gJ 7 6,ak 8 1,gJ 9 8,⟨some 10,.bin (.int .neq) (.t 7) (.t 9),none,[7,9]⟩])
 (.cond (.t 10)
 (.seq (.aB [eC 4])
 (.ret))
 (.skip)))
 (.seq (.seq (.aB [ep 5])
 (.block 0 (.loop It)))
 (.seq (.aB [qZ 4])
 (.ret))))
theorem Sk:cc Tryz.prog Tryz.f17.ntmps (Tryz.f17.body.getD .skip)=oI:=by kernel_rfl
theorem Sl:cV Tryz.prog Tryz.f17.ntmps Tryz.f17.results.toList=[.t 4]:=by kernel_rfl
theorem Sj {args:List V} {h:af} {K:V→af→Prop} (ai:Nat.ble args.length 27=true) (H:b_ Tryz.prog oI (aR.bb args) h fun e r ab=>e.ends∧∃ad,cL r ab [.t 4]=some ad∧K (oneOf ad) ab):bI Tryz.prog 17 args h K:=
 dy follows dc Tryz.func17 (c:=Tryz.f17.body.getD .skip) (by kernel_rfl) (by kernel_rfl) (by kernel_rfl) ai Sk Sl (by kernel_rfl) H
def CH:bz:=
 .seq (.aB [ak 5 9])
 (.aB [hi 6,⟨none,.st 4 (.t 6) (.t 10),none,[6,10]⟩])
def CI:bz:=
 .block 1 (.seq (.seq (.aB [dn 11 6,⟨some 12,.call 57 [(.t 11)],none,[11]⟩,pG 13 12])
 (.cond (.t 13)
 (.seq (.aB [⟨none,.st 1 (.t 2) (.c (.int .i64 2)),none,[2]⟩])
 (.ret))
 (.skip)))
 (.seq (.aB [bP 14 3,eu 15 14,⟨none,.st 1 (.t 3) (.t 15),none,[3,15]⟩])
 (.aB [bP 16 4,ak 17 5,⟨some 18,.dm [(.t 16),(.t 17)],none,[16,17]⟩,⟨none,.st 1 (.t 4) (.t 18),none,[4,18]⟩])))
def CG:bz:=
 .seq (.aB [hr 1 0,vr 2])
 (.seq (.aB [vr 3,vr 4,⟨none,.st 1 (.t 3) (.c (.int .i64 0)),none,[3]⟩,⟨none,.st 1 (.t 4) (.c (.int .i64 0)),none,[4]⟩])
 (.seq (.seq (.aB [dn 7 1,⟨some 8,.call 56 [(.t 7)],none,[7]⟩])
 (.block 0 (bz.range (.t 8) [9,10] 25 CH CI)))
 (.seq (.seq (.aB [bP 19 3,x8 20 19,ak 21 20,q0 22 4 21,Bt 23 22 21,fq 24 21 23])
 (.cond (.t 24)
 (.seq (.aB [⟨none,.st 1 (.t 2) (.c (.int .i64 3)),none,[2]⟩])
 (.ret))
 (.skip)))
 (.seq (.aB [⟨none,.st 1 (.t 2) (.c (.int .i64 0)),none,[2]⟩])
 (.ret)))))
theorem Sn:cc Tryz.prog Tryz.f19.ntmps (Tryz.f19.body.getD .skip)=CG:=by kernel_rfl
theorem Sp:cV Tryz.prog Tryz.f19.ntmps Tryz.f19.results.toList=[.bE 2]:=by kernel_rfl
theorem Sm {args:List V} {h:af} {K:V→af→Prop} (ai:Nat.ble args.length 25=true) (H:b_ Tryz.prog CG (aR.bb args) h fun e r ab=>e.ends∧∃ae,lv (r dN).list ab=some ae∧∃ad,cL r ae [.bE 2]=some ad∧K (oneOf ad) ae):bI Tryz.prog 19 args h K:=
 I2 follows dc Tryz.func19 (c:=Tryz.f19.body.getD .skip) (by kernel_rfl) (by kernel_rfl) (by kernel_rfl) ai Sn Sp H
def CK:bz:=
 .seq (.aB [hr 1 0,ep 2])
 (.seq (.seq (.aB [dn 3 1,⟨some 4,.call 58 [(.t 3)],none,[3]⟩,pG 5 4])
 (.cond (.t 5)
 (.seq (.aB [x9 2])
 (.ret))
 (.skip)))
 (.seq (.seq (.aB [dn 6 1,⟨some 7,.call 31 [(.t 6)],none,[6]⟩,x8 8 7,ak 9 8,pF 10 1 9,⟨some 11,.call 59 [(.t 10)],(some (9,false)),[10,9]⟩,Bt 12 11 9,fq 13 9 12])
 (.cond (.t 13)
 (.seq (.aB [⟨some 2,.fh (.c (.int .i64 3)),none,[]⟩])
 (.ret))
 (.skip)))
 (.seq (.aB [ep 2])
 (.ret))))
theorem Sr:cc Tryz.prog Tryz.f20.ntmps (Tryz.f20.body.getD .skip)=CK:=by kernel_rfl
theorem Ss:cV Tryz.prog Tryz.f20.ntmps Tryz.f20.results.toList=[.t 2]:=by kernel_rfl
theorem Sq {args:List V} {h:af} {K:V→af→Prop} (ai:Nat.ble args.length 14=true) (H:b_ Tryz.prog CK (aR.bb args) h fun e r ab=>e.ends∧∃ad,cL r ab [.t 2]=some ad∧K (oneOf ad) ab):bI Tryz.prog 20 args h K:=
 dy follows dc Tryz.func20 (c:=Tryz.f20.body.getD .skip) (by kernel_rfl) (by kernel_rfl) (by kernel_rfl) ai Sr Ss (by kernel_rfl) H
def Iu:bz:=
 .seq (.seq (.aB [ak 7 6,ak 8 0,gJ 9 8,gI 10 7 9])
 (.cond (.t 10)
 (.skip)
 (.exit 0)))
 (.seq (.block 1 (.aB [ak 13 5,ak 14 0,ak 15 6,oq 16 14 15,dG 17 16,dn 18 17,my 19 18,pE 20 13 19,ak 5 20]))
 (.aB [ak 11 6,eu 12 11,ak 6 12]))
def c21:bz:=
 .seq (.aB [eC 4])
 (.seq (.aB [jF 5])
 (.seq (.seq (.aB [ep 6])
 (.block 0 (.loop Iu)))
 (.seq (.aB [ak 21 5,ak 22 1,⟨some 23,.call 10 [(.t 21),(.t 22)],none,[21,22]⟩,ak 4 23])
 (.ret))))
theorem Su:cc Tryz.prog Tryz.f21.ntmps (Tryz.f21.body.getD .skip)=c21:=by kernel_rfl
theorem Sv:cV Tryz.prog Tryz.f21.ntmps Tryz.f21.results.toList=[.t 4]:=by kernel_rfl
theorem St {args:List V} {h:af} {K:V→af→Prop} (ai:Nat.ble args.length 24=true) (H:b_ Tryz.prog c21 (aR.bb args) h fun e r ab=>e.ends∧∃ad,cL r ab [.t 4]=some ad∧K (oneOf ad) ab):bI Tryz.prog 21 args h K:=
 dy follows dc Tryz.func21 (c:=Tryz.f21.body.getD .skip) (by kernel_rfl) (by kernel_rfl) (by kernel_rfl) ai Su Sv (by kernel_rfl) H
def Iv:bz:=
 .seq (.seq (.aB [ak 6 4,ak 7 0,gJ 8 7,gI 9 6 8])
 (.cond (.t 9)
 (.skip)
 (.exit 0)))
 (.seq (.block 1 (.seq (.aB [ak 12 0,ak 13 4,oq 14 12 13,dG 15 14,dn 16 15,my 17 16,vn 18 17,ak 5 18])
 (.draw [ak 19 3,ak 20 0,ak 21 4,oq 22 20 21,gv 23 22,bP 24 23,ak 25 5,⟨some 26,.cH 4 (.t 25) (.c (.int .i64 0)),none,[25]⟩,dn 27 26,⟨some 28,.build [(.int .i64 0),(.int .i64 0),(.int .i64 0),(.str []),.b6] [(0,1,(.t 24)),(1,4,(.t 27))],none,[24,27]⟩,⟨some 29,.jh 1 5 [(.int .i64 0),(.int .i64 0),(.int .i64 0),(.str []),.b6] [(0,5,(.t 28))],none,[28]⟩,⟨some 30,.app 5 (.t 19) (.t 29),none,[19,29]⟩,ak 3 30] [(5,[11]),(8,[11])])))
 (.aB [ak 10 4,eu 11 10,ak 4 11]))
def CL:bz:=
 .seq (.aB [jF 2])
 (.seq (.aB [jF 3])
 (.seq (.seq (.aB [ep 4])
 (.block 0 (.loop Iv)))
 (.seq (.aB [ak 31 3,ak 2 31])
 (.ret))))
theorem Sx:cc Tryz.prog Tryz.f22.ntmps (Tryz.f22.body.getD .skip)=CL:=by kernel_rfl
theorem Sy:cV Tryz.prog Tryz.f22.ntmps Tryz.f22.results.toList=[.t 2]:=by kernel_rfl
theorem Sw {args:List V} {h:af} {K:V→af→Prop} (ai:Nat.ble args.length 32=true) (H:b_ Tryz.prog CL (aR.bb args) h fun e r ab=>e.ends∧∃ad,cL r ab [.t 2]=some ad∧K (oneOf ad) ab):bI Tryz.prog 22 args h K:=
 dy follows dc Tryz.func22 (c:=Tryz.f22.body.getD .skip) (by kernel_rfl) (by kernel_rfl) (by kernel_rfl) ai Sx Sy (by kernel_rfl) H
def Iw:bz:=
 .seq (.aB [gI 16 15 14])
 (.seq (.cond (.t 16)
 (.skip)
 (.exit 0))
 (.seq (.block 1 (.seq (.aB [oq 17 13 15,⟨some 18,.iW 5 (.t 17),none,[17]⟩,⟨some 9,.new [(.int .i64 0),(.int .i64 0),(.int .i64 0),(.str []),.b6],none,[]⟩,⟨none,.st 5 (.t 9) (.t 18),none,[9,18]⟩])
 (.seq (.seq (.aB [gv 19 9,bP 20 19,ak 21 7,⟨some 22,.bin (.int .leq) (.t 20) (.t 21),none,[20,21]⟩,ak 23 22,⟨some 24,.hy 0 (.t 9),(some (23,false)),[9,23]⟩,q0 25 24 23,⟨some 26,.bin (.int .gtr) (.t 25) (.c (.int .i64 1048575)),(some (23,false)),[25,23]⟩,fq 27 23 26,ak 28 27,vq 29 9 28,pF 30 29 28,⟨some 31,.call 19 [(.t 30)],(some (28,false)),[30,28]⟩,vs 32 31 28,fq 33 28 32])
 (.cond (.t 33)
 (.seq (.aB [sV 34,⟨none,.st 4 (.t 4) (.t 34),none,[4,34]⟩,x9 5])
 (.ret))
 (.skip)))
 (.seq (.aB [gv 35 9,bP 36 35,ak 7 36])
 (.aB [ak 37 6,gv 38 9,bP 39 38,dG 40 9,dn 41 40,⟨none,.nm .int (.t 37) (.t 39) (.t 41),none,[37,39,41]⟩])))))
 (.aB [eu 42 15,ak 15 42])))
def CM:bz:=
 .seq (.aB [hr 3 1,hi 4,ep 5])
 (.seq (.aB [⟨some 12,.sn none,none,[]⟩,ak 6 12])
 (.seq (.aB [⟨some 7,.fh (.c (.int .i64 (-1))),none,[]⟩])
 (.seq (.seq (.aB [ak 13 0,gJ 14 13,ep 15])
 (.block 0 (.loop Iw)))
 (.seq (.seq (.aB [dn 43 3,⟨some 44,.call 19 [(.t 43)],none,[43]⟩,⟨some 45,.bin (.int .neq) (.t 44) (.c (.int .i64 0)),none,[44]⟩])
 (.cond (.t 45)
 (.seq (.aB [sV 46,⟨none,.st 4 (.t 4) (.t 46),none,[4,46]⟩,x9 5])
 (.ret))
 (.skip)))
 (.seq (.aB [vr 10,⟨none,.st 1 (.t 10) (.c (.int .i64 4096)),none,[10]⟩])
 (.seq (.aB [ak 47 6,dn 48 3,⟨some 49,.call 60 [(.t 47),(.t 48),(.t 10)],none,[47,48,10]⟩,hi 11,⟨none,.st 4 (.t 11) (.t 49),none,[11,49]⟩])
 (.seq (.seq (.aB [bP 50 10,Bu 51 50,ak 52 51,pF 53 11 52,⟨some 54,.call 19 [(.t 53)],(some (52,false)),[53,52]⟩,vs 55 54 52,fq 56 52 55])
 (.cond (.t 56)
 (.seq (.aB [sV 57,⟨none,.st 4 (.t 4) (.t 57),none,[4,57]⟩,⟨some 5,.fh (.c (.int .i64 3)),none,[]⟩])
 (.ret))
 (.skip)))
 (.seq (.aB [dn 58 11,⟨none,.st 4 (.t 4) (.t 58),none,[4,58]⟩,ep 5])
 (.ret)))))))))
theorem SA:cc Tryz.prog Tryz.f23.ntmps (Tryz.f23.body.getD .skip)=CM:=by kernel_rfl
theorem SB:cV Tryz.prog Tryz.f23.ntmps Tryz.f23.results.toList=[.gy 4 4,.t 5]:=by kernel_rfl
theorem Sz {args:List V} {h:af} {K:V→af→Prop} (ai:Nat.ble args.length 59=true) (H:b_ Tryz.prog CM (aR.bb args) h fun e r ab=>e.ends∧∃ad,cL r ab [.gy 4 4,.t 5]=some ad∧K (oneOf ad) ab):bI Tryz.prog 23 args h K:=
 dy follows dc Tryz.func23 (c:=Tryz.f23.body.getD .skip) (by kernel_rfl) (by kernel_rfl) (by kernel_rfl) ai SA SB (by kernel_rfl) H
def CN:bz:=
 .seq (.aB [hr 3 1,hi 4,ep 5])
 (.seq (.seq (.aB [ak 8 0,⟨some 9,.call 61 [(.t 8)],none,[8]⟩,pG 10 9,ak 11 10,pF 12 3 11,⟨some 13,.call 20 [(.t 12)],(some (11,false)),[12,11]⟩,vs 14 13 11,fq 15 11 14])
 (.cond (.t 15)
 (.seq (.aB [sV 16,⟨none,.st 4 (.t 4) (.t 16),none,[4,16]⟩,x9 5])
 (.ret))
 (.skip)))
 (.seq (.aB [ak 18 0,dn 19 3,⟨some 20,.call 62 [(.t 18),(.t 19)],none,[18,19]⟩,ak 17 20,jD 21 17,jE 22 17,ak 6 21,ak 7 22])
 (.seq (.seq (.aB [ak 23 6,x8 24 23,ak 25 24,fJ 26 7 25,Bt 27 26 25,fq 28 25 27])
 (.cond (.t 28)
 (.seq (.aB [sV 29,⟨none,.st 4 (.t 4) (.t 29),none,[4,29]⟩,⟨some 5,.fh (.c (.int .i64 3)),none,[]⟩])
 (.ret))
 (.skip)))
 (.seq (.aB [ak 30 0,dn 31 3,⟨some 32,.call 64 [(.t 30),(.t 31)],none,[30,31]⟩,⟨some 33,.call 63 [(.t 32)],none,[32]⟩,⟨none,.st 4 (.t 4) (.t 33),none,[4,33]⟩,ep 5])
 (.ret)))))
theorem SD:cc Tryz.prog Tryz.f24.ntmps (Tryz.f24.body.getD .skip)=CN:=by kernel_rfl
theorem SE:cV Tryz.prog Tryz.f24.ntmps Tryz.f24.results.toList=[.gy 4 4,.t 5]:=by kernel_rfl
theorem SC {args:List V} {h:af} {K:V→af→Prop} (ai:Nat.ble args.length 34=true) (H:b_ Tryz.prog CN (aR.bb args) h fun e r ab=>e.ends∧∃ad,cL r ab [.gy 4 4,.t 5]=some ad∧K (oneOf ad) ab):bI Tryz.prog 24 args h K:=
 dy follows dc Tryz.func24 (c:=Tryz.f24.body.getD .skip) (by kernel_rfl) (by kernel_rfl) (by kernel_rfl) ai SD SE (by kernel_rfl) H
def CO:bz:=
 .seq (.aB [hr 2 0,hr 3 1,eC 4])
 (.seq (.aB [gv 5 2,bP 6 5,gv 7 3,bP 8 7,⟨some 9,.bin (.int .eql) (.t 6) (.t 8),none,[6,8]⟩,ak 10 9,pH 11 2 10,fz 12 11 10,pH 13 3 10,fz 14 13 10,vo 15 12 14 10,dY 16 10 15,ak 17 16,sW 18 2 17,fz 19 18 17,sW 20 3 17,fz 21 20 17,Bv 22 19 21 17,dY 23 17 22,ak 24 23,pI 25 2 24,fz 26 25 24,pI 27 3 24,fz 28 27 24,x5 29 26 28 24,dY 30 24 29,ak 4 30])
 (.ret))
theorem SG:cc Tryz.prog Tryz.f25.ntmps (Tryz.f25.body.getD .skip)=CO:=by kernel_rfl
theorem SH:cV Tryz.prog Tryz.f25.ntmps Tryz.f25.results.toList=[.t 4]:=by kernel_rfl
theorem SF {args:List V} {h:af} {K:V→af→Prop} (ai:Nat.ble args.length 31=true) (H:b_ Tryz.prog CO (aR.bb args) h fun e r ab=>e.ends∧∃ad,cL r ab [.t 4]=some ad∧K (oneOf ad) ab):bI Tryz.prog 25 args h K:=
 dy follows dc Tryz.func25 (c:=Tryz.f25.body.getD .skip) (by kernel_rfl) (by kernel_rfl) (by kernel_rfl) ai SG SH (by kernel_rfl) H
def Ix:bz:=
 .seq (.seq (.aB [ak 3 2,ak 4 0,gJ 5 4,gI 6 3 5])
 (.cond (.t 6)
 (.skip)
 (.exit 0)))
 (.seq (.block 1 (.seq (.aB [ak 9 0,ak 10 2,jG 11 9 10,gK 12 11,bP 13 12,⟨some 14,.call 26 [(.t 13)],none,[13]⟩])
 (.aB [ak 15 0,ak 16 2,⟨some 17,.build [(.int .i64 0),(.int .i64 0),(.str []),.b6] [(0,1,(.c (.int .i64 77)))],none,[]⟩,jG 18 15 16,⟨none,.st 4 (.t 18) (.t 17),none,[18,17]⟩])))
 (.aB [ak 7 2,eu 8 7,ak 2 8]))
def CP:bz:=
 .seq (.aB [ep 2])
 (.block 0 (.loop Ix))
theorem SJ:cc Tryz.prog Tryz.f26.ntmps (Tryz.f26.body.getD .skip)=CP:=by kernel_rfl
theorem SK:cV Tryz.prog Tryz.f26.ntmps Tryz.f26.results.toList=[]:=by kernel_rfl
theorem SI {args:List V} {h:af} {K:V→af→Prop} (ai:Nat.ble args.length 19=true) (H:b_ Tryz.prog CP (aR.bb args) h fun e r ab=>e.ends∧∃ad,cL r ab []=some ad∧K (oneOf ad) ab):bI Tryz.prog 26 args h K:=
 dy follows dc Tryz.func26 (c:=Tryz.f26.body.getD .skip) (by kernel_rfl) (by kernel_rfl) (by kernel_rfl) ai SJ SK (by kernel_rfl) H
def CR:bz:=
 .skip
def CS:bz:=
 .block 1 (.aB [bP 8 3,eu 9 8,⟨none,.st 1 (.t 3) (.t 9),none,[3,9]⟩])
def CQ:bz:=
 .seq (.aB [hr 1 0,ep 2])
 (.seq (.aB [vr 3,⟨none,.st 1 (.t 3) (.c (.int .i64 0)),none,[3]⟩])
 (.seq (.seq (.aB [dn 4 1,⟨some 5,.call 56 [(.t 4)],none,[4]⟩])
 (.block 0 (bz.range (.t 5) [6,7] 11 CR CS)))
 (.seq (.aB [bP 10 3,ak 2 10])
 (.ret))))
theorem SM:cc Tryz.prog Tryz.f30.ntmps (Tryz.f30.body.getD .skip)=CQ:=by kernel_rfl
theorem SN:cV Tryz.prog Tryz.f30.ntmps Tryz.f30.results.toList=[.t 2]:=by kernel_rfl
theorem SL {args:List V} {h:af} {K:V→af→Prop} (ai:Nat.ble args.length 11=true) (H:b_ Tryz.prog CQ (aR.bb args) h fun e r ab=>e.ends∧∃ae,lv (r dN).list ab=some ae∧∃ad,cL r ae [.t 2]=some ad∧K (oneOf ad) ae):bI Tryz.prog 30 args h K:=
 I2 follows dc Tryz.func30 (c:=Tryz.f30.body.getD .skip) (by kernel_rfl) (by kernel_rfl) (by kernel_rfl) ai SM SN H
def Iy:bz:=
 .seq (.seq (.aB [ak 5 4,gK 6 1,bP 7 6,gJ 8 7,gI 9 5 8])
 (.cond (.t 9)
 (.skip)
 (.exit 0)))
 (.seq (.block 1 (.aB [ak 12 3,gK 13 1,bP 14 13,ak 15 4,jG 16 14 15,dn 17 16,⟨some 18,.call 31 [(.t 17)],none,[17]⟩,vt 19 12 18,ak 3 19]))
 (.aB [ak 10 4,eu 11 10,ak 4 11]))
def CT:bz:=
 .seq (.aB [hr 1 0,ep 2])
 (.seq (.aB [vp 3])
 (.seq (.seq (.aB [ep 4])
 (.block 0 (.loop Iy)))
 (.seq (.aB [ak 20 3,ak 2 20])
 (.ret))))
theorem SP:cc Tryz.prog Tryz.f31.ntmps (Tryz.f31.body.getD .skip)=CT:=by kernel_rfl
theorem SQ:cV Tryz.prog Tryz.f31.ntmps Tryz.f31.results.toList=[.t 2]:=by kernel_rfl
theorem SO {args:List V} {h:af} {K:V→af→Prop} (ai:Nat.ble args.length 21=true) (H:b_ Tryz.prog CT (aR.bb args) h fun e r ab=>e.ends∧∃ad,cL r ab [.t 2]=some ad∧K (oneOf ad) ab):bI Tryz.prog 31 args h K:=
 dy follows dc Tryz.func31 (c:=Tryz.f31.body.getD .skip) (by kernel_rfl) (by kernel_rfl) (by kernel_rfl) ai SP SQ (by kernel_rfl) H
def SR:bz:=
 .aB [hi 6,⟨none,.st 4 (.t 6) (.t 11),none,[6,11]⟩]
def SS:bz:=
 .block 1 (.seq (.aB [gv 12 6,bP 13 12,sX 14 13,ak 15 14,fz 16 4 15,pH 17 6 15,fz 18 17 15,⟨some 19,.look .int (.bool false) false (.t 16) (.t 18),(some (15,true)),[16,18,15]⟩,⟨some 20,.un .not (.t 19),(some (15,true)),[19,15]⟩,dY 21 15 20])
 (.cond (.t 21)
 (.seq (.aB [bP 22 4,dG 23 6,bP 24 23,⟨none,.nm .int (.t 22) (.t 24) (.c (.bool true)),none,[22,24]⟩])
 (.aB [bP 25 3,dG 26 6,bP 27 26,⟨some 28,.jh 1 1 [(.int .i64 0)] [(0,1,(.t 27))],none,[27]⟩,⟨some 29,.app 1 (.t 25) (.t 28),none,[25,28]⟩,⟨none,.st 1 (.t 3) (.t 29),none,[3,29]⟩]))
 (.skip)))
def c34:bz:=
 .seq (.aB [hr 1 0,jF 2])
 (.seq (.aB [⟨some 3,.new [.b6],none,[]⟩])
 (.seq (.aB [⟨some 7,.sn none,none,[]⟩,⟨some 4,.new [.kr],none,[]⟩,⟨none,.st 1 (.t 4) (.t 7),none,[4,7]⟩])
 (.seq (.seq (.aB [dn 8 1,⟨some 9,.call 56 [(.t 8)],none,[8]⟩])
 (.block 0 (bz.range (.t 9) [10,11] 31 SR SS)))
 (.seq (.aB [bP 30 3,ak 2 30])
 (.ret)))))
def Iz:bz:=
 .seq (.seq (.aB [ak 7 6,ak 8 0,gJ 9 8,gI 10 7 9,ak 11 10,dP 12 5 11,dP 13 1 11,Bw 14 12 13 11,dY 15 11 14])
 (.cond (.t 15)
 (.skip)
 (.exit 0)))
 (.seq (.block 1 (.seq (.aB [ak 18 5,eu 19 18,ak 20 0,ak 21 6,jG 22 20 21,jH 23 22,bP 24 23,kA 25 24,⟨some 26,.bin (.int .quo) (.t 25) (.c (.int .i64 100)),none,[25]⟩,vt 27 19 26,ak 5 27])
 (.aB [ak 28 5,ak 29 0,ak 30 6,jG 31 29 30,gK 32 31,bP 33 32,ak 34 1,ak 35 5,⟨some 36,.bin (.int .sub) (.t 34) (.t 35),none,[34,35]⟩,⟨some 37,.call 46 [(.t 33),(.t 36)],none,[33,36]⟩,vt 38 28 37,ak 5 38])))
 (.aB [ak 16 6,eu 17 16,ak 6 17]))
def CU:bz:=
 .seq (.aB [ep 4])
 (.seq (.aB [ep 5])
 (.seq (.seq (.aB [ep 6])
 (.block 0 (.loop Iz)))
 (.seq (.aB [ak 39 5,ak 4 39])
 (.ret))))
theorem SV:cc Tryz.prog Tryz.f46.ntmps (Tryz.f46.body.getD .skip)=CU:=by kernel_rfl
theorem SW:cV Tryz.prog Tryz.f46.ntmps Tryz.f46.results.toList=[.t 4]:=by kernel_rfl
theorem SU {args:List V} {h:af} {K:V→af→Prop} (ai:Nat.ble args.length 40=true) (H:b_ Tryz.prog CU (aR.bb args) h fun e r ab=>e.ends∧∃ad,cL r ab [.t 4]=some ad∧K (oneOf ad) ab):bI Tryz.prog 46 args h K:=
 dy follows dc Tryz.func46 (c:=Tryz.f46.body.getD .skip) (by kernel_rfl) (by kernel_rfl) (by kernel_rfl) ai SV SW (by kernel_rfl) H
def CW:bz:=
 .seq (.aB [hr 1 0,⟨some 2,.fh (.c .k3),none,[]⟩])
 (.seq (.aB [⟨some 3,.fn 86 [(.t 1)],none,[1]⟩,ak 2 3])
 (.ret))
theorem S0:cc Tryz.prog Tryz.f56.ntmps (Tryz.f56.body.getD .skip)=CW:=by kernel_rfl
theorem S1:cV Tryz.prog Tryz.f56.ntmps Tryz.f56.results.toList=[.t 2]:=by kernel_rfl
theorem SZ {args:List V} {h:af} {K:V→af→Prop} (ai:Nat.ble args.length 4=true) (H:b_ Tryz.prog CW (aR.bb args) h fun e r ab=>e.ends∧∃ad,cL r ab [.t 2]=some ad∧K (oneOf ad) ab):bI Tryz.prog 56 args h K:=
 dy follows dc Tryz.func56 (c:=Tryz.f56.body.getD .skip) (by kernel_rfl) (by kernel_rfl) (by kernel_rfl) ai S0 S1 (by kernel_rfl) H
def CX:bz:=
 .seq (.aB [hr 1 0,eC 2])
 (.seq (.seq (.aB [gv 3 1,bP 4 3])
 (.block 0 (.seq (.aB [sX 6 4,ak 5 6])
 (.cond (.t 5)
 (.seq (.aB [dG 7 1,bP 8 7,x' 9 8,ak 10 9,pH 11 1 10,fz 12 11 10,⟨some 13,.bin (.int .leq) (.t 12) (.c (.int .i64 1048575)),(some (10,true)),[12,10]⟩,dY 14 10 13,ak 15 14,sW 16 1 15,fz 17 16 15,⟨some 18,.bin (.str .eql) (.t 17) (.c (.str [])),(some (15,true)),[17,15]⟩,dY 19 15 18,ak 20 19,pI 21 1 20,fz 22 21 20,sY 23 22 20,Bs 24 23 20,dY 25 20 24,ak 2 25])
 (.ret))
 (.seq (.aB [⟨some 27,.bin (.int .eql) (.t 4) (.c (.int .i64 2)),none,[4]⟩,ak 26 27])
 (.cond (.t 26)
 (.seq (.seq (.aB [jH 28 1,bP 29 28,⟨some 30,.bin (.str .eql) (.t 29) (.c (.str [45,62])),none,[29]⟩,ak 31 30,⟨some 32,.hy 2 (.t 1),(some (31,false)),[1,31]⟩,q0 33 32 31,⟨some 34,.bin (.str .eql) (.t 33) (.c (.str [42])),(some (31,false)),[33,31]⟩,fq 35 31 34])
 (.cond (.t 35)
 (.seq (.aB [dG 36 1,bP 37 36,vu 38 37,ak 39 38,pI 40 1 39,fz 41 40 39,sY 42 41 39,⟨some 43,.bin (.int .eql) (.t 42) (.c (.int .i64 2)),(some (39,true)),[42,39]⟩,dY 44 39 43,ak 2 44])
 (.ret))
 (.skip)))
 (.seq (.aB [dG 45 1,bP 46 45,vu 47 46,ak 48 47,pI 49 1 48,fz 50 49 48,sY 51 50 48,⟨some 52,.bin (.int .leq) (.t 51) (.c (.int .i64 64)),(some (48,true)),[51,48]⟩,dY 53 48 52,ak 54 53,sW 55 1 54,fz 56 55 54,⟨some 57,.call 88 [(.t 56)],(some (54,true)),[56,54]⟩,dY 58 54 57,ak 2 58])
 (.ret)))
 (.skip)))))))
 (.seq (.aB [eC 2])
 (.ret)))
theorem S3:cc Tryz.prog Tryz.f57.ntmps (Tryz.f57.body.getD .skip)=CX:=by kernel_rfl
theorem S4:cV Tryz.prog Tryz.f57.ntmps Tryz.f57.results.toList=[.t 2]:=by kernel_rfl
theorem S2 {args:List V} {h:af} {K:V→af→Prop} (ai:Nat.ble args.length 59=true) (H:b_ Tryz.prog CX (aR.bb args) h fun e r ab=>e.ends∧∃ad,cL r ab [.t 2]=some ad∧K (oneOf ad) ab):bI Tryz.prog 57 args h K:=
 dy follows dc Tryz.func57 (c:=Tryz.f57.body.getD .skip) (by kernel_rfl) (by kernel_rfl) (by kernel_rfl) ai S3 S4 (by kernel_rfl) H
def CZ:bz:=
 .seq (.seq (.aB [ak 68 4,gK 69 1,bP 70 69,gJ 71 70,gI 72 68 71])
 (.cond (.t 72)
 (.skip)
 (.exit 0)))
 (.seq (.block 1 (.seq (.aB [gK 75 1,bP 76 75,ak 77 4,jG 78 76 77,dn 79 78,⟨some 80,.call 58 [(.t 79)],none,[79]⟩,pG 81 80])
 (.cond (.t 81)
 (.seq (.aB [eC 2])
 (.ret))
 (.skip))))
 (.aB [ak 73 4,eu 74 73,ak 4 74]))
def CY:bz:=
 .seq (.aB [hr 1 0,eC 2])
 (.seq (.seq (.aB [gv 5 1,bP 6 5,sX 7 6])
 (.cond (.t 7)
 (.seq (.aB [dG 8 1,bP 9 8,x' 10 9,ak 11 10,pH 12 1 11,fz 13 12 11,⟨some 14,.bin (.int .leq) (.t 13) (.c (.int .i64 1048575)),(some (11,true)),[13,11]⟩,dY 15 11 14,ak 16 15,sW 17 1 16,fz 18 17 16,⟨some 19,.bin (.str .eql) (.t 18) (.c (.str [])),(some (16,true)),[18,16]⟩,dY 20 16 19,ak 21 20,pI 22 1 21,fz 23 22 21,sY 24 23 21,Bs 25 24 21,dY 26 21 25,ak 2 26])
 (.ret))
 (.skip)))
 (.seq (.aB [jH 27 1,bP 28 27,⟨some 29,.bin (.str .eql) (.t 28) (.c (.str [45,62])),none,[28]⟩,ak 30 29,⟨some 31,.hy 2 (.t 1),(some (30,false)),[1,30]⟩,q0 32 31 30,⟨some 33,.bin (.str .eql) (.t 32) (.c (.str [42])),(some (30,false)),[32,30]⟩,fq 34 30 33,ak 3 34])
 (.seq (.seq (.aB [gv 35 1,bP 36 35,⟨some 37,.bin (.int .neq) (.t 36) (.c (.int .i64 2)),none,[36]⟩,ak 38 37,vq 39 1 38,q0 40 39 38,vs 41 40 38,fq 42 38 41,ak 43 42,fJ 44 3 43,fJ 45 44 43,pI 46 1 45,fz 47 46 45,sY 48 47 45,⟨some 49,.bin (.int .neq) (.t 48) (.c (.int .i64 2)),(some (45,true)),[48,45]⟩,Bx 50 45 49 43,fq 51 43 50,ak 52 51,fJ 53 3 52,⟨some 54,.un .not (.t 53),(some (52,false)),[53,52]⟩,fJ 55 54 52,sW 56 1 55,fz 57 56 55,⟨some 58,.call 89 [(.c (.int .i64 3)),(.t 57)],(some (55,true)),[57,55]⟩,⟨some 59,.un .not (.t 58),(some (55,true)),[58,55]⟩,dP 60 59 55,⟨some 61,.hy 3 (.t 1),(some (60,false)),[1,60]⟩,q0 62 61 60,⟨some 63,.len .slice (.t 62),(some (60,false)),[62,60]⟩,⟨some 64,.bin (.int .gtr) (.t 63) (.c (.int .i64 64)),(some (60,false)),[63,60]⟩,⟨some 65,.pick (.t 60) (.c (.bool true)) (.t 64),(some (55,true)),[60,64,55]⟩,Bx 66 55 65 52,fq 67 52 66])
 (.cond (.t 67)
 (.seq (.aB [eC 2])
 (.ret))
 (.skip)))
 (.seq (.seq (.aB [ep 4])
 (.block 0 (.loop CZ)))
 (.seq (.aB [qZ 2])
 (.ret))))))
theorem S6:cc Tryz.prog Tryz.f58.ntmps (Tryz.f58.body.getD .skip)=CY:=by kernel_rfl
theorem S7:cV Tryz.prog Tryz.f58.ntmps Tryz.f58.results.toList=[.t 2]:=by kernel_rfl
theorem S5 {args:List V} {h:af} {K:V→af→Prop} (ai:Nat.ble args.length 82=true) (H:b_ Tryz.prog CY (aR.bb args) h fun e r ab=>e.ends∧∃ad,cL r ab [.t 2]=some ad∧K (oneOf ad) ab):bI Tryz.prog 58 args h K:=
 dy follows dc Tryz.func58 (c:=Tryz.f58.body.getD .skip) (by kernel_rfl) (by kernel_rfl) (by kernel_rfl) ai S6 S7 (by kernel_rfl) H
def IA:bz:=
 .seq (.seq (.aB [ak 5 4,gK 6 1,bP 7 6,gJ 8 7,gI 9 5 8])
 (.cond (.t 9)
 (.skip)
 (.exit 0)))
 (.seq (.block 1 (.aB [ak 12 3,gK 13 1,bP 14 13,ak 15 4,jG 16 14 15,dn 17 16,⟨some 18,.call 59 [(.t 17)],none,[17]⟩,⟨some 19,.dm [(.t 12),(.t 18)],none,[12,18]⟩,ak 3 19]))
 (.aB [ak 10 4,eu 11 10,ak 4 11]))
def C0:bz:=
 .seq (.aB [hr 1 0,ep 2])
 (.seq (.aB [ep 3])
 (.seq (.seq (.aB [ep 4])
 (.block 0 (.loop IA)))
 (.seq (.aB [ak 20 3,eu 21 20,ak 2 21])
 (.ret))))
theorem S9:cc Tryz.prog Tryz.f59.ntmps (Tryz.f59.body.getD .skip)=C0:=by kernel_rfl
theorem S':cV Tryz.prog Tryz.f59.ntmps Tryz.f59.results.toList=[.t 2]:=by kernel_rfl
theorem S8 {args:List V} {h:af} {K:V→af→Prop} (ai:Nat.ble args.length 22=true) (H:b_ Tryz.prog C0 (aR.bb args) h fun e r ab=>e.ends∧∃ad,cL r ab [.t 2]=some ad∧K (oneOf ad) ab):bI Tryz.prog 59 args h K:=
 dy follows dc Tryz.func59 (c:=Tryz.f59.body.getD .skip) (by kernel_rfl) (by kernel_rfl) (by kernel_rfl) ai S9 S' (by kernel_rfl) H
def C2:bz:=
 .seq (.aB [gI 45 44 43])
 (.seq (.cond (.t 45)
 (.skip)
 (.exit 0))
 (.seq (.block 1 (.seq (.aB [jG 46 42 44,dn 47 46,hi 11,⟨none,.st 4 (.t 11) (.t 47),none,[11,47]⟩])
 (.seq (.seq (.aB [ak 48 2,c_ 49 48,bP 50 49,Bu 51 50])
 (.cond (.t 51)
 (.exit 0)
 (.skip)))
 (.draw [gK 52 4,bP 53 52,ak 54 0,dn 55 11,ak 56 2,⟨some 57,.call 60 [(.t 54),(.t 55),(.t 56)],none,[54,55,56]⟩,my 58 57,pE 59 53 58,gK 60 4,⟨none,.st 1 (.t 60) (.t 59),none,[60,59]⟩] [(1,[5,7]),(3,[5])]))))
 (.aB [eu 61 44,ak 44 61])))
def C1:bz:=
 .seq (.aB [hr 4 1,hi 6])
 (.seq (.seq (.aB [ak 13 0,dG 14 4,bP 15 14,⟨some 16,.look .int (.agg [(.int .i64 0),(.int .i64 0),(.str []),.b6]) true (.t 13) (.t 15),none,[13,15]⟩,ak 12 16,jD 17 12,jE 18 12,hi 7,⟨none,.st 4 (.t 7) (.t 17),none,[7,17]⟩,ak 8 18])
 (.seq (.aB [ak 19 8,ak 20 19,q1 21 4 20,fz 22 21 20,⟨some 23,.bin (.int .eql) (.t 22) (.c (.int .i64 1)),(some (20,true)),[22,20]⟩,dY 24 20 23])
 (.cond (.t 24)
 (.seq (.draw [ak 25 2,c_ 26 25,bP 27 26,dn 28 7,⟨some 29,.call 30 [(.t 28)],none,[28]⟩,⟨some 30,.bin (.int .sub) (.t 27) (.t 29),none,[27,29]⟩,c_ 31 25,⟨none,.st 1 (.t 31) (.t 30),none,[31,30]⟩] [(2,[4,7]),(3,[4])])
 (.seq (.aB [dn 32 7,⟨some 33,.call 90 [(.t 32)],none,[32]⟩,⟨none,.st 4 (.t 6) (.t 33),none,[6,33]⟩])
 (.ret)))
 (.skip))))
 (.seq (.aB [ak 34 2,c_ 35 34,bP 36 35,⟨some 37,.bin (.int .sub) (.t 36) (.c (.int .i64 1)),none,[36]⟩,c_ 38 34,⟨none,.st 1 (.t 38) (.t 37),none,[38,37]⟩])
 (.seq (.aB [gK 39 4,bP 40 39,ak 9 40])
 (.seq (.aB [gK 41 4,⟨none,.st 1 (.t 41) (.c .b6),none,[41]⟩])
 (.seq (.seq (.aB [ak 42 9,gJ 43 42,ep 44])
 (.block 0 (.loop C2)))
 (.seq (.aB [dn 62 4,⟨none,.st 4 (.t 6) (.t 62),none,[6,62]⟩])
 (.ret)))))))
theorem Td:cc Tryz.prog Tryz.f60.ntmps (Tryz.f60.body.getD .skip)=C1:=by kernel_rfl
theorem Te:cV Tryz.prog Tryz.f60.ntmps Tryz.f60.results.toList=[.gy 6 4]:=by kernel_rfl
theorem Tc {args:List V} {h:af} {K:V→af→Prop} (ai:Nat.ble args.length 63=true) (H:b_ Tryz.prog C1 (aR.bb args) h fun e r ab=>e.ends∧∃ad,cL r ab [.gy 6 4]=some ad∧K (oneOf ad) ab):bI Tryz.prog 60 args h K:=
 dy follows dc Tryz.func60 (c:=Tryz.f60.body.getD .skip) (by kernel_rfl) (by kernel_rfl) (by kernel_rfl) ai Td Te (by kernel_rfl) H
def IB:bz:=
 .seq (.seq (.aB [ak 4 3,ak 5 0,gJ 6 5,gI 7 4 6])
 (.cond (.t 7)
 (.skip)
 (.exit 0)))
 (.seq (.block 1 (.seq (.draw [ak 10 0,ak 11 3,oq 12 10 11,gv 13 12,bP 14 13,Bu 15 14,ak 16 15,fJ 17 0 16,fJ 18 3 16,x7 19 17 18 16,⟨some 20,.hy 0 (.t 19),(some (16,false)),[19,16]⟩,q0 21 20 16,⟨some 22,.bin (.int .gtr) (.t 21) (.c (.int .i64 1048575)),(some (16,false)),[21,16]⟩,fq 23 16 22,ak 24 23,fJ 25 3 24,⟨some 26,.bin (.int .gtr) (.t 25) (.c (.int .i64 0)),(some (24,false)),[25,24]⟩,fJ 27 26 24,dP 28 0 27,dP 29 3 27,⟨some 30,.cH 5 (.t 28) (.t 29),(some (27,true)),[28,29,27]⟩,q1 31 30 27,fz 32 31 27,dP 33 0 27,dP 34 3 27,⟨some 35,.bin (.int .sub) (.t 34) (.c (.int .i64 1)),(some (27,true)),[34,27]⟩,⟨some 36,.cH 5 (.t 33) (.t 35),(some (27,true)),[33,35,27]⟩,q1 37 36 27,fz 38 37 27,Bw 39 32 38 27,Bx 40 27 39 24,fq 41 24 40,ak 42 41,fJ 43 0 42,fJ 44 3 42,x7 45 43 44 42,vq 46 45 42,pF 47 46 42,⟨some 48,.call 20 [(.t 47)],(some (42,false)),[47,42]⟩,vs 49 48 42,fq 50 42 49] [(4,[38]),(11,[38]),(22,[38]),(28,[38]),(37,[38])])
 (.cond (.t 50)
 (.seq (.aB [eC 2])
 (.ret))
 (.skip))))
 (.aB [ak 8 3,eu 9 8,ak 3 9]))
def C3:bz:=
 .seq (.aB [eC 2])
 (.seq (.seq (.aB [ep 3])
 (.block 0 (.loop IB)))
 (.seq (.aB [qZ 2])
 (.ret)))
theorem Tg:cc Tryz.prog Tryz.f61.ntmps (Tryz.f61.body.getD .skip)=C3:=by kernel_rfl
theorem Th:cV Tryz.prog Tryz.f61.ntmps Tryz.f61.results.toList=[.t 2]:=by kernel_rfl
theorem Tf {args:List V} {h:af} {K:V→af→Prop} (ai:Nat.ble args.length 51=true) (H:b_ Tryz.prog C3 (aR.bb args) h fun e r ab=>e.ends∧∃ad,cL r ab [.t 2]=some ad∧K (oneOf ad) ab):bI Tryz.prog 61 args h K:=
 dy follows dc Tryz.func61 (c:=Tryz.f61.body.getD .skip) (by kernel_rfl) (by kernel_rfl) (by kernel_rfl) ai Tg Th (by kernel_rfl) H
def IC:bz:=
 .seq (.seq (.aB [ak 28 10,gK 29 3,bP 30 29,gJ 31 30,gI 32 28 31])
 (.cond (.t 32)
 (.skip)
 (.exit 0)))
 (.seq (.block 1 (.seq (.aB [ak 36 0,gK 37 3,bP 38 37,ak 39 10,jG 40 38 39,dn 41 40,⟨some 42,.call 62 [(.t 36),(.t 41)],none,[36,41]⟩,ak 35 42,jD 43 35,jE 44 35,ak 11 43,ak 12 44])
 (.seq (.aB [ak 45 8,ak 46 11,vt 47 45 46,ak 8 47])
 (.aB [ak 48 9,ak 49 12,⟨some 50,.dm [(.t 48),(.t 49)],none,[48,49]⟩,ak 9 50]))))
 (.aB [ak 33 10,eu 34 33,ak 10 34]))
def C4:bz:=
 .seq (.aB [hr 3 1,ep 4,ep 5])
 (.seq (.seq (.aB [gv 13 3,bP 14 13,sX 15 14])
 (.cond (.t 15)
 (.seq (.aB [ak 17 0,dG 18 3,bP 19 18,⟨some 20,.call 91 [(.t 17),(.t 19)],none,[17,19]⟩,ak 16 20,jD 21 16,jE 22 16,hi 6,⟨none,.st 4 (.t 6) (.t 21),none,[6,21]⟩,ak 7 22])
 (.seq (.seq (.aB [ak 23 7])
 (.cond (.t 23)
 (.seq (.draw [dn 24 6,dn 26 6,⟨some 25,.call 31 [(.t 24)],none,[24]⟩,⟨some 27,.call 59 [(.t 26)],none,[26]⟩,ak 4 25,ak 5 27] [(0,[2]),(1,[2,3])])
 (.ret))
 (.skip)))
 (.seq (.aB [vp 4,vp 5])
 (.ret))))
 (.skip)))
 (.seq (.aB [vp 8,ep 9])
 (.seq (.seq (.aB [ep 10])
 (.block 0 (.loop IC)))
 (.seq (.aB [ak 51 8,ak 52 9,eu 53 52,ak 4 51,ak 5 53])
 (.ret)))))
theorem Tj:cc Tryz.prog Tryz.f62.ntmps (Tryz.f62.body.getD .skip)=C4:=by kernel_rfl
theorem Tk:cV Tryz.prog Tryz.f62.ntmps Tryz.f62.results.toList=[.t 4,.t 5]:=by kernel_rfl
theorem Ti {args:List V} {h:af} {K:V→af→Prop} (ai:Nat.ble args.length 54=true) (H:b_ Tryz.prog C4 (aR.bb args) h fun e r ab=>e.ends∧∃ad,cL r ab [.t 4,.t 5]=some ad∧K (oneOf ad) ab):bI Tryz.prog 62 args h K:=
 dy follows dc Tryz.func62 (c:=Tryz.f62.body.getD .skip) (by kernel_rfl) (by kernel_rfl) (by kernel_rfl) ai Tj Tk (by kernel_rfl) H
def C5:bz:=
 .seq (.aB [hr 1 0,hi 2])
 (.seq (.aB [dn 3 1,⟨some 4,.call 64 [(.c .b6),(.t 3)],none,[3]⟩,⟨none,.st 4 (.t 2) (.t 4),none,[2,4]⟩])
 (.ret))
theorem Tm:cc Tryz.prog Tryz.f63.ntmps (Tryz.f63.body.getD .skip)=C5:=by kernel_rfl
theorem Tn:cV Tryz.prog Tryz.f63.ntmps Tryz.f63.results.toList=[.gy 2 4]:=by kernel_rfl
theorem Tl {args:List V} {h:af} {K:V→af→Prop} (ai:Nat.ble args.length 5=true) (H:b_ Tryz.prog C5 (aR.bb args) h fun e r ab=>e.ends∧∃ad,cL r ab [.gy 2 4]=some ad∧K (oneOf ad) ab):bI Tryz.prog 63 args h K:=
 dy follows dc Tryz.func63 (c:=Tryz.f63.body.getD .skip) (by kernel_rfl) (by kernel_rfl) (by kernel_rfl) ai Tm Tn (by kernel_rfl) H
def ID:bz:=
 .seq (.seq (.aB [ak 30 8,gK 31 3,bP 32 31,gJ 33 32,gI 34 30 33])
 (.cond (.t 34)
 (.skip)
 (.exit 0)))
 (.seq (.block 1 (.seq (.aB [ak 37 0,gK 38 3,bP 39 38,ak 40 8,jG 41 39 40,dn 42 41,⟨some 43,.call 64 [(.t 37),(.t 42)],none,[37,42]⟩,hi 9,⟨none,.st 4 (.t 9) (.t 43),none,[9,43]⟩])
 (.aB [gK 44 7,bP 45 44,dn 46 9,my 47 46,pE 48 45 47,gK 49 7,⟨none,.st 1 (.t 49) (.t 48),none,[49,48]⟩])))
 (.aB [ak 35 8,eu 36 35,ak 8 36]))
def C6:bz:=
 .seq (.aB [hr 3 1,hi 4])
 (.seq (.seq (.aB [gv 10 3,bP 11 10,sX 12 11])
 (.cond (.t 12)
 (.seq (.aB [ak 14 0,dG 15 3,bP 16 15,⟨some 17,.call 91 [(.t 14),(.t 16)],none,[14,16]⟩,ak 13 17,jD 18 13,jE 19 13,hi 5,⟨none,.st 4 (.t 5) (.t 18),none,[5,18]⟩,ak 6 19])
 (.seq (.seq (.aB [ak 20 6])
 (.cond (.t 20)
 (.seq (.aB [dn 21 5,⟨none,.st 4 (.t 4) (.t 21),none,[4,21]⟩])
 (.ret))
 (.skip)))
 (.seq (.aB [dn 22 3,⟨none,.st 4 (.t 4) (.t 22),none,[4,22]⟩])
 (.ret))))
 (.skip)))
 (.seq (.aB [gv 23 3,bP 24 23,dG 25 3,bP 26 25,jH 27 3,bP 28 27,⟨some 29,.build [(.int .i64 0),(.int .i64 0),(.str []),.b6] [(0,1,(.t 24)),(1,1,(.t 26)),(2,1,(.t 28))],none,[24,26,28]⟩,hi 7,⟨none,.st 4 (.t 7) (.t 29),none,[7,29]⟩])
 (.seq (.seq (.aB [ep 8])
 (.block 0 (.loop ID)))
 (.seq (.aB [dn 50 7,⟨none,.st 4 (.t 4) (.t 50),none,[4,50]⟩])
 (.ret)))))
theorem Tp:cc Tryz.prog Tryz.f64.ntmps (Tryz.f64.body.getD .skip)=C6:=by kernel_rfl
theorem Tq:cV Tryz.prog Tryz.f64.ntmps Tryz.f64.results.toList=[.gy 4 4]:=by kernel_rfl
theorem To {args:List V} {h:af} {K:V→af→Prop} (ai:Nat.ble args.length 51=true) (H:b_ Tryz.prog C6 (aR.bb args) h fun e r ab=>e.ends∧∃ad,cL r ab [.gy 4 4]=some ad∧K (oneOf ad) ab):bI Tryz.prog 64 args h K:=
 dy follows dc Tryz.func64 (c:=Tryz.f64.body.getD .skip) (by kernel_rfl) (by kernel_rfl) (by kernel_rfl) ai Tp Tq (by kernel_rfl) H
def C7:bz:=
 .seq (.aB [hr 2 0])
 (.seq (.aB [⟨some 3,.new [.k3],none,[]⟩])
 (.seq (.aB [⟨some 4,.fn 87 [(.t 2),(.t 3)],none,[2,3]⟩,⟨none,.st 1 (.t 3) (.t 4),none,[3,4]⟩])
 (.aB [bP 5 3,dn 6 1,⟨some 7,.lN (.t 5) [(.c (.int .i64 1)),(.t 6)],none,[5,6]⟩])))
theorem Ts:cc Tryz.prog Tryz.f86.ntmps (Tryz.f86.body.getD .skip)=C7:=by kernel_rfl
theorem Tt:cV Tryz.prog Tryz.f86.ntmps Tryz.f86.results.toList=[]:=by kernel_rfl
theorem Tr {args:List V} {h:af} {K:V→af→Prop} (ai:Nat.ble args.length 8=true) (H:b_ Tryz.prog C7 (aR.bb args) h fun e r ab=>e.ends∧∃ad,cL r ab []=some ad∧K (oneOf ad) ab):bI Tryz.prog 86 args h K:=
 dy follows dc Tryz.func86 (c:=Tryz.f86.body.getD .skip) (by kernel_rfl) (by kernel_rfl) (by kernel_rfl) ai Ts Tt (by kernel_rfl) H
def IE:bz:=
 .seq (.aB [gI 18 17 16])
 (.seq (.cond (.t 18)
 (.skip)
 (.exit 0))
 (.seq (.block 1 (.seq (.aB [jG 19 15 17,dn 20 19,hi 8,⟨none,.st 4 (.t 8) (.t 20),none,[8,20]⟩])
 (.seq (.aB [bP 21 3,ak 22 0,eu 23 22,dn 24 8,⟨some 25,.lN (.t 21) [(.t 23),(.t 24)],none,[21,23,24]⟩,pG 26 25])
 (.cond (.t 26)
 (.seq (.aB [eC 6])
 (.ret))
 (.skip)))))
 (.aB [eu 27 17,ak 17 27])))
def C8:bz:=
 .seq (.aB [hr 5 1,eC 6])
 (.seq (.seq (.aB [bP 9 2,ak 10 0,dn 11 5,⟨some 12,.lN (.t 9) [(.t 10),(.t 11)],none,[9,10,11]⟩,pG 13 12])
 (.cond (.t 13)
 (.seq (.aB [eC 6])
 (.ret))
 (.skip)))
 (.seq (.seq (.aB [gK 14 5,bP 15 14,gJ 16 15,ep 17])
 (.block 0 (.loop IE)))
 (.seq (.aB [qZ 6])
 (.ret))))
theorem Tv:cc Tryz.prog Tryz.f87.ntmps (Tryz.f87.body.getD .skip)=C8:=by kernel_rfl
theorem Tw:cV Tryz.prog Tryz.f87.ntmps Tryz.f87.results.toList=[.t 6]:=by kernel_rfl
theorem Tu {args:List V} {h:af} {K:V→af→Prop} (ai:Nat.ble args.length 28=true) (H:b_ Tryz.prog C8 (aR.bb args) h fun e r ab=>e.ends∧∃ad,cL r ab [.t 6]=some ad∧K (oneOf ad) ab):bI Tryz.prog 87 args h K:=
 dy follows dc Tryz.func87 (c:=Tryz.f87.body.getD .skip) (by kernel_rfl) (by kernel_rfl) (by kernel_rfl) ai Tv Tw (by kernel_rfl) H
def C9:bz:=
 .seq (.aB [eC 2])
 (.seq (.aB [ak 6 0,⟨some 7,.call 104 [(.t 6)],none,[6]⟩,ak 5 7,jD 8 5,jE 9 5,⟨some 4,.new [(.int .i64 0),(.int .i64 0)],none,[]⟩,ak 3 8,⟨none,.st 2 (.t 4) (.t 9),none,[4,9]⟩])
 (.seq (.aB [gv 10 4,bP 11 10,vu 12 11,ak 13 12,dP 14 3 13,sY 15 14 13,⟨some 16,.bin (.int .eql) (.t 15) (.c (.int .i64 1)),(some (13,true)),[15,13]⟩,dY 17 13 16,ak 18 17,dP 19 3 18,⟨some 20,.cH 4 (.t 19) (.c (.int .i64 0)),(some (18,true)),[19,18]⟩,q1 21 20 18,fz 22 21 18,⟨some 23,.bin (.int .eql) (.t 22) (.c (.int .i64 3)),(some (18,true)),[22,18]⟩,dY 24 18 23,ak 25 24,dP 26 3 25,⟨some 27,.cH 4 (.t 26) (.c (.int .i64 0)),(some (25,true)),[26,25]⟩,pI 28 27 25,fz 29 28 25,dP 30 0 25,Bv 31 29 30 25,dY 32 25 31,ak 2 32])
 (.ret)))
theorem Ty:cc Tryz.prog Tryz.f88.ntmps (Tryz.f88.body.getD .skip)=C9:=by kernel_rfl
theorem Tz:cV Tryz.prog Tryz.f88.ntmps Tryz.f88.results.toList=[.t 2]:=by kernel_rfl
theorem Tx {args:List V} {h:af} {K:V→af→Prop} (ai:Nat.ble args.length 33=true) (H:b_ Tryz.prog C9 (aR.bb args) h fun e r ab=>e.ends∧∃ad,cL r ab [.t 2]=some ad∧K (oneOf ad) ab):bI Tryz.prog 88 args h K:=
 dy follows dc Tryz.func88 (c:=Tryz.f88.body.getD .skip) (by kernel_rfl) (by kernel_rfl) (by kernel_rfl) ai Ty Tz (by kernel_rfl) H
def IF:bz:=
 .seq (.seq (.aB [ak 13 5,ak 14 1,kA 15 14,gI 16 13 15])
 (.cond (.t 16)
 (.skip)
 (.exit 0)))
 (.seq (.block 1 (.seq (.aB [ak 19 1,ak 20 5,x_ 21 19 20,⟨some 22,.call 105 [(.t 21)],none,[21]⟩,pG 23 22])
 (.cond (.t 23)
 (.seq (.aB [eC 4])
 (.ret))
 (.skip))))
 (.aB [ak 17 5,eu 18 17,ak 5 18]))
def C':bz:=
 .seq (.aB [eC 4])
 (.seq (.seq (.aB [ak 6 1,⟨some 7,.bin (.str .eql) (.t 6) (.c (.str [])),none,[6]⟩,ak 8 7,fJ 9 1 8,⟨some 10,.len .str (.t 9),(some (8,false)),[9,8]⟩,⟨some 11,.bin (.int .gtr) (.t 10) (.c (.int .i64 64)),(some (8,false)),[10,8]⟩,fq 12 8 11])
 (.cond (.t 12)
 (.seq (.aB [eC 4])
 (.ret))
 (.skip)))
 (.seq (.seq (.aB [ep 5])
 (.block 0 (.loop IF)))
 (.seq (.seq (.aB [ak 24 0])
 (.block 2 (.seq (.aB [⟨some 26,.bin (.int .eql) (.t 24) (.c (.int .i64 4)),none,[24]⟩,ak 25 26])
 (.cond (.t 25)
 (.seq (.aB [ak 27 1,ya 28 27,⟨some 29,.call 106 [(.t 28),(.c (.int .u8 65)),(.c (.int .u8 90))],none,[28]⟩,ak 4 29])
 (.ret))
 (.seq (.aB [⟨some 31,.bin (.int .eql) (.t 24) (.c (.int .i64 5)),none,[24]⟩,ak 30 31])
 (.cond (.t 30)
 (.seq (.aB [ak 32 1,ya 33 32,By 34 33,ak 4 34])
 (.ret))
 (.skip)))))))
 (.seq (.aB [ak 35 1,ya 36 35,By 37 36,ak 38 37,fJ 39 1 38,⟨some 40,.ko (.t 39) (.c (.int .i64 0)),(some (38,false)),[39,38]⟩,yb 41 40 38,fq 42 38 41,ak 43 42,dP 44 1 43,⟨some 45,.bin (.str .neq) (.t 44) (.c (.str [95])),(some (43,true)),[44,43]⟩,dY 46 43 45,ak 47 46,dP 48 1 47,⟨some 49,.call 108 [],(some (47,true)),[47]⟩,⟨some 50,.call 107 [(.t 48),(.t 49)],(some (47,true)),[48,49,47]⟩,⟨some 51,.un .not (.t 50),(some (47,true)),[50,47]⟩,dY 52 47 51,ak 4 52])
 (.ret)))))
theorem TB:cc Tryz.prog Tryz.f89.ntmps (Tryz.f89.body.getD .skip)=C':=by kernel_rfl
theorem TC:cV Tryz.prog Tryz.f89.ntmps Tryz.f89.results.toList=[.t 4]:=by kernel_rfl
theorem TA {args:List V} {h:af} {K:V→af→Prop} (ai:Nat.ble args.length 53=true) (H:b_ Tryz.prog C' (aR.bb args) h fun e r ab=>e.ends∧∃ad,cL r ab [.t 4]=some ad∧K (oneOf ad) ab):bI Tryz.prog 89 args h K:=
 dy follows dc Tryz.func89 (c:=Tryz.f89.body.getD .skip) (by kernel_rfl) (by kernel_rfl) (by kernel_rfl) ai TB TC (by kernel_rfl) H
def IG:bz:=
 .seq (.aB [gI 12 11 10])
 (.seq (.cond (.t 12)
 (.skip)
 (.exit 0))
 (.seq (.block 1 (.seq (.aB [jG 13 9 11,dn 14 13,hi 5,⟨none,.st 4 (.t 5) (.t 14),none,[5,14]⟩])
 (.draw [gK 15 1,bP 16 15,dn 17 5,⟨some 18,.call 90 [(.t 17)],none,[17]⟩,my 19 18,pE 20 16 19,gK 21 1,⟨none,.st 1 (.t 21) (.t 20),none,[21,20]⟩] [(1,[3,5]),(2,[3])])))
 (.aB [eu 22 11,ak 11 22])))
def C_:bz:=
 .seq (.aB [hr 1 0,hi 2])
 (.seq (.aB [gK 6 1,bP 7 6,ak 3 7])
 (.seq (.aB [gK 8 1,⟨none,.st 1 (.t 8) (.c .b6),none,[8]⟩])
 (.seq (.seq (.aB [ak 9 3,gJ 10 9,ep 11])
 (.block 0 (.loop IG)))
 (.seq (.aB [dn 23 1,⟨none,.st 4 (.t 2) (.t 23),none,[2,23]⟩])
 (.ret)))))
theorem TE:cc Tryz.prog Tryz.f90.ntmps (Tryz.f90.body.getD .skip)=C_:=by kernel_rfl
theorem TF:cV Tryz.prog Tryz.f90.ntmps Tryz.f90.results.toList=[.gy 2 4]:=by kernel_rfl
theorem TD {args:List V} {h:af} {K:V→af→Prop} (ai:Nat.ble args.length 24=true) (H:b_ Tryz.prog C_ (aR.bb args) h fun e r ab=>e.ends∧∃ad,cL r ab [.gy 2 4]=some ad∧K (oneOf ad) ab):bI Tryz.prog 90 args h K:=
 dy follows dc Tryz.func90 (c:=Tryz.f90.body.getD .skip) (by kernel_rfl) (by kernel_rfl) (by kernel_rfl) ai TE TF (by kernel_rfl) H
def IH:bz:=
 .seq (.seq (.aB [ak 7 6,ak 8 0,gJ 9 8,gI 10 7 9])
 (.cond (.t 10)
 (.skip)
 (.exit 0)))
 (.seq (.block 1 (.seq (.aB [ak 13 0,ak 14 6,oq 15 13 14,gv 16 15,bP 17 16,ak 18 1,⟨some 19,.bin (.int .eql) (.t 17) (.t 18),none,[17,18]⟩])
 (.cond (.t 19)
 (.seq (.aB [ak 20 0,ak 21 6,oq 22 20 21,dG 23 22,dn 24 23,⟨none,.st 4 (.t 4) (.t 24),none,[4,24]⟩,qZ 5])
 (.ret))
 (.skip))))
 (.aB [ak 11 6,eu 12 11,ak 6 12]))
def Da:bz:=
 .seq (.aB [hi 4,eC 5])
 (.seq (.seq (.aB [ep 6])
 (.block 0 (.loop IH)))
 (.seq (.aB [sV 25,⟨none,.st 4 (.t 4) (.t 25),none,[4,25]⟩,eC 5])
 (.ret)))
theorem TH:cc Tryz.prog Tryz.f91.ntmps (Tryz.f91.body.getD .skip)=Da:=by kernel_rfl
theorem TI:cV Tryz.prog Tryz.f91.ntmps Tryz.f91.results.toList=[.gy 4 4,.t 5]:=by kernel_rfl
theorem TG {args:List V} {h:af} {K:V→af→Prop} (ai:Nat.ble args.length 26=true) (H:b_ Tryz.prog Da (aR.bb args) h fun e r ab=>e.ends∧∃ad,cL r ab [.gy 4 4,.t 5]=some ad∧K (oneOf ad) ab):bI Tryz.prog 91 args h K:=
 dy follows dc Tryz.func91 (c:=Tryz.f91.body.getD .skip) (by kernel_rfl) (by kernel_rfl) (by kernel_rfl) ai TH TI (by kernel_rfl) H
def Cj:bz:=
 .seq (.aB [eC 2])
 (.seq (.aB [ak 3 0,By 4 3,ak 5 4,fJ 6 0 5,⟨some 7,.call 106 [(.t 6),(.c (.int .u8 65)),(.c (.int .u8 90))],(some (5,false)),[6,5]⟩,fq 8 5 7,ak 9 8,fJ 10 0 9,⟨some 11,.call 106 [(.t 10),(.c (.int .u8 48)),(.c (.int .u8 57))],(some (9,false)),[10,9]⟩,fq 12 9 11,ak 13 12,fJ 14 0 13,yb 15 14 13,fq 16 13 15,ak 17 16,fJ 18 0 17,⟨some 19,.bin (.int .eql) (.t 18) (.c (.int .u8 39)),(some (17,false)),[18,17]⟩,fq 20 17 19,ak 2 20])
 (.ret))
theorem Q8:cc Tryz.prog Tryz.f105.ntmps (Tryz.f105.body.getD .skip)=Cj:=by kernel_rfl
theorem Q9:cV Tryz.prog Tryz.f105.ntmps Tryz.f105.results.toList=[.t 2]:=by kernel_rfl
theorem Q7 {args:List V} {h:af} {K:V→af→Prop} (ai:Nat.ble args.length 21=true) (H:b_ Tryz.prog Cj (aR.bb args) h fun e r ab=>e.ends∧∃ad,cL r ab [.t 2]=some ad∧K (oneOf ad) ab):bI Tryz.prog 105 args h K:=
 dy follows dc Tryz.func105 (c:=Tryz.f105.body.getD .skip) (by kernel_rfl) (by kernel_rfl) (by kernel_rfl) ai Q8 Q9 (by kernel_rfl) H
def Ck:bz:=
 .seq (.aB [eC 6])
 (.seq (.aB [ak 7 0,ak 8 1,vv 9 7 8,ak 10 9,dP 11 0 10,dP 12 2 10,Bw 13 11 12 10,dY 14 10 13,ak 6 14])
 (.ret))
theorem Q_:cc Tryz.prog Tryz.f106.ntmps (Tryz.f106.body.getD .skip)=Ck:=by kernel_rfl
theorem Ra:cV Tryz.prog Tryz.f106.ntmps Tryz.f106.results.toList=[.t 6]:=by kernel_rfl
theorem Q' {args:List V} {h:af} {K:V→af→Prop} (ai:Nat.ble args.length 15=true) (H:b_ Tryz.prog Ck (aR.bb args) h fun e r ab=>e.ends∧∃ad,cL r ab [.t 6]=some ad∧K (oneOf ad) ab):bI Tryz.prog 106 args h K:=
 dy follows dc Tryz.func106 (c:=Tryz.f106.body.getD .skip) (by kernel_rfl) (by kernel_rfl) (by kernel_rfl) ai Q_ Ra (by kernel_rfl) H
def Ik:bz:=
 .seq (.seq (.aB [ak 6 5,ak 7 1,gJ 8 7,gI 9 6 8])
 (.cond (.t 9)
 (.skip)
 (.exit 0)))
 (.seq (.block 1 (.seq (.aB [ak 12 1,ak 13 5,⟨some 14,.cH 1 (.t 12) (.t 13),none,[12,13]⟩,bP 15 14,ak 16 0,⟨some 17,.bin (.str .eql) (.t 15) (.t 16),none,[15,16]⟩])
 (.cond (.t 17)
 (.seq (.aB [qZ 4])
 (.ret))
 (.skip))))
 (.aB [ak 10 5,eu 11 10,ak 5 11]))
def Cl:bz:=
 .seq (.aB [eC 4])
 (.seq (.seq (.aB [ep 5])
 (.block 0 (.loop Ik)))
 (.seq (.aB [eC 4])
 (.ret)))
theorem Rc:cc Tryz.prog Tryz.f107.ntmps (Tryz.f107.body.getD .skip)=Cl:=by kernel_rfl
theorem Re:cV Tryz.prog Tryz.f107.ntmps Tryz.f107.results.toList=[.t 4]:=by kernel_rfl
theorem Rb {args:List V} {h:af} {K:V→af→Prop} (ai:Nat.ble args.length 18=true) (H:b_ Tryz.prog Cl (aR.bb args) h fun e r ab=>e.ends∧∃ad,cL r ab [.t 4]=some ad∧K (oneOf ad) ab):bI Tryz.prog 107 args h K:=
 dy follows dc Tryz.func107 (c:=Tryz.f107.body.getD .skip) (by kernel_rfl) (by kernel_rfl) (by kernel_rfl) ai Rc Re (by kernel_rfl) H
def Cm:bz:=
 .seq (.aB [jF 0])
 (.seq (.aB [⟨some 1,.jh 20 1 [(.str [])] [(0,1,(.c (.str [97,110,100]))),(1,1,(.c (.str [98,101,103,105,110]))),(2,1,(.c (.str [101,108,115,101]))),(3,1,(.c (.str [101,110,100]))),(4,1,(.c (.str [101,120,99,101,112,116,105,111,110]))),(5,1,(.c (.str [102,97,108,115,101]))),(6,1,(.c (.str [102,117,110]))),(7,1,(.c (.str [105,102]))),(8,1,(.c (.str [105,110]))),(9,1,(.c (.str [108,101,116]))),(10,1,(.c (.str [109,97,116,99,104]))),(11,1,(.c (.str [109,111,100]))),(12,1,(.c (.str [111,102]))),(13,1,(.c (.str [114,97,105,115,101]))),(14,1,(.c (.str [114,101,99]))),(15,1,(.c (.str [116,104,101,110]))),(16,1,(.c (.str [116,114,117,101]))),(17,1,(.c (.str [116,114,121]))),(18,1,(.c (.str [116,121,112,101]))),(19,1,(.c (.str [119,105,116,104])))],none,[]⟩,ak 0 1])
 (.ret))
theorem Rh:cc Tryz.prog Tryz.f108.ntmps (Tryz.f108.body.getD .skip)=Cm:=by kernel_rfl
theorem Ri:cV Tryz.prog Tryz.f108.ntmps Tryz.f108.results.toList=[.t 0]:=by kernel_rfl
theorem Rf {args:List V} {h:af} {K:V→af→Prop} (ai:Nat.ble args.length 2=true) (H:b_ Tryz.prog Cm (aR.bb args) h fun e r ab=>e.ends∧∃ad,cL r ab [.t 0]=some ad∧K (oneOf ad) ab):bI Tryz.prog 108 args h K:=
 dy follows dc Tryz.func108 (c:=Tryz.f108.body.getD .skip) (by kernel_rfl) (by kernel_rfl) (by kernel_rfl) ai Rh Ri (by kernel_rfl) H
def Ij:bz:=
 .block 1 (.seq (.aB [ak 24 5,c_ 25 24,dG 26 25,bP 27 26,ak 7 27])
 (.seq (.block 2 (.seq (.aB [ak 37 7,ak 38 0,kA 39 38,vv 40 37 39,ak 36 40])
 (.cond (.t 36)
 (.exit 0)
 (.seq (.aB [ak 42 0,ak 43 7,x_ 44 42 43,⟨some 45,.call 124 [(.c (.str [9,10,13,32])),(.t 44)],none,[44]⟩,x' 46 45,ak 41 46])
 (.cond (.t 41)
 (.aB [ak 47 5,c_ 48 47,dG 49 48,bP 50 49,eu 51 50,c_ 52 47,dG 53 52,⟨none,.st 1 (.t 53) (.t 51),none,[53,51]⟩])
 (.seq (.aB [ak 55 5,⟨some 56,.call 125 [(.t 55),(.c (.str [40,42]))],none,[55]⟩,ak 54 56])
 (.cond (.t 54)
 (.aB [ak 57 5,⟨some 58,.call 126 [(.t 57)],none,[57]⟩])
 (.seq (.aB [ak 28 5,⟨some 29,.call 127 [(.t 28)],none,[28]⟩,vw 8,⟨none,.st 4 (.t 8) (.t 29),none,[8,29]⟩])
 (.seq (.aB [ak 30 7,jH 31 8,⟨none,.st 1 (.t 31) (.t 30),none,[31,30]⟩])
 (.aB [ak 32 6,dn 33 8,⟨some 34,.jh 1 4 [(.int .i64 0),(.int .i64 0),(.int .i64 0),(.str [])] [(0,4,(.t 33))],none,[33]⟩,pE 35 32 34,ak 6 35]))))))))))
 (.seq (.aB [ak 59 5,c_ 60 59,jH 61 60,bP 62 61,⟨some 63,.bin (.int .neq) (.t 62) (.c (.int .i64 0)),none,[62]⟩])
 (.cond (.t 63)
 (.seq (.draw [ak 64 5,c_ 65 64,jH 66 65,bP 67 66,ak 68 7,⟨some 69,.build [(.int .i64 0),(.int .i64 0)] [(0,1,(.t 67)),(1,1,(.t 68))],none,[67,68]⟩,jF 2,⟨none,.st 2 (.t 3) (.t 69),none,[3,69]⟩] [(3,[7])])
 (.ret))
 (.skip)))))
def Ci:bz:=
 .seq (.aB [jF 2,⟨some 3,.new [(.int .i64 0),(.int .i64 0)],none,[]⟩])
 (.seq (.seq (.aB [ak 9 0,kA 10 9,⟨some 11,.bin (.int .gtr) (.t 10) (.c (.int .i64 65536)),none,[10]⟩])
 (.cond (.t 11)
 (.seq (.aB [⟨some 12,.build [(.int .i64 0),(.int .i64 0)] [(0,1,(.c (.int .i64 3)))],none,[]⟩,jF 2,⟨none,.st 2 (.t 3) (.t 12),none,[3,12]⟩])
 (.ret))
 (.skip)))
 (.seq (.seq (.aB [ak 13 0,⟨some 14,.call 123 [(.t 13)],none,[13]⟩,ak 4 14])
 (.seq (.aB [ak 15 4,ak 16 0,kA 17 16,gI 18 15 17])
 (.cond (.t 18)
 (.seq (.aB [ak 19 4,⟨some 20,.build [(.int .i64 0),(.int .i64 0)] [(0,1,(.c (.int .i64 250))),(1,1,(.t 19))],none,[19]⟩,jF 2,⟨none,.st 2 (.t 3) (.t 20),none,[3,20]⟩])
 (.ret))
 (.skip))))
 (.seq (.aB [ak 21 0,⟨some 22,.build [(.str []),(.int .i64 0),(.int .i64 0)] [(0,1,(.t 21))],none,[21]⟩,hr 23 22,ak 5 23])
 (.seq (.aB [jF 6])
 (.seq (.skip)
 (.seq (.block 0 (.loop Ij))
 (.seq (.aB [ak 70 6,⟨some 71,.build [(.int .i64 0),(.int .i64 0)] [],none,[]⟩,ak 2 70,⟨none,.st 2 (.t 3) (.t 71),none,[3,71]⟩])
 (.ret))))))))
theorem Q5:cc Tryz.prog Tryz.f104.ntmps (Tryz.f104.body.getD .skip)=Ci:=by kernel_rfl
theorem Q6:cV Tryz.prog Tryz.f104.ntmps Tryz.f104.results.toList=[.t 2,.gy 3 2]:=by kernel_rfl
theorem Q4 {args:List V} {h:af} {K:V→af→Prop} (ai:Nat.ble args.length 72=true) (H:b_ Tryz.prog Ci (aR.bb args) h fun e r ab=>e.ends∧∃ad,cL r ab [.t 2,.gy 3 2]=some ad∧K (oneOf ad) ab):bI Tryz.prog 104 args h K:=
 dy follows dc Tryz.func104 (c:=Tryz.f104.body.getD .skip) (by kernel_rfl) (by kernel_rfl) (by kernel_rfl) ai Q5 Q6 (by kernel_rfl) H
def Il:bz:=
 .seq (.aB [⟨some 9,.uJ (.t 8),none,[8]⟩,jD 10 9])
 (.seq (.cond (.t 10)
 (.skip)
 (.exit 0))
 (.block 1 (.seq (.aB [jE 11 9,⟨some 12,.ext (.t 9) 2,none,[9]⟩,ak 3 11,ak 4 12])
 (.seq (.aB [ak 13 4,⟨some 14,.bin (.int .eql) (.t 13) (.c (.int .i32 65533)),none,[13]⟩])
 (.cond (.t 14)
 (.seq (.aB [ak 16 0,ak 17 3,Bz 18 16 17,⟨some 19,.call 137 [(.t 18)],none,[18]⟩,ak 15 19,jD 20 15,jE 21 15,ak 5 20,ak 6 21])
 (.seq (.aB [ak 22 6,sX 23 22])
 (.cond (.t 23)
 (.seq (.aB [ak 24 3,ak 2 24])
 (.ret))
 (.skip))))
 (.skip))))))
def Co:bz:=
 .seq (.aB [ep 2])
 (.seq (.seq (.aB [ak 7 0,⟨some 8,.uU (.t 7),none,[7]⟩])
 (.block 0 (.loop Il)))
 (.seq (.aB [ak 25 0,kA 26 25,ak 2 26])
 (.ret)))
theorem Rn:cc Tryz.prog Tryz.f123.ntmps (Tryz.f123.body.getD .skip)=Co:=by kernel_rfl
theorem Ro:cV Tryz.prog Tryz.f123.ntmps Tryz.f123.results.toList=[.t 2]:=by kernel_rfl
theorem Rm {args:List V} {h:af} {K:V→af→Prop} (ai:Nat.ble args.length 27=true) (H:b_ Tryz.prog Co (aR.bb args) h fun e r ab=>e.ends∧∃ad,cL r ab [.t 2]=some ad∧K (oneOf ad) ab):bI Tryz.prog 123 args h K:=
 dy follows dc Tryz.func123 (c:=Tryz.f123.body.getD .skip) (by kernel_rfl) (by kernel_rfl) (by kernel_rfl) ai Rn Ro (by kernel_rfl) H
def Cp:bz:=
 .seq (.aB [ep 4])
 (.seq (.aB [ak 5 0,ak 6 1,⟨some 7,.call 138 [(.t 5),(.t 6)],none,[5,6]⟩,ak 4 7])
 (.ret))
theorem Rq:cc Tryz.prog Tryz.f124.ntmps (Tryz.f124.body.getD .skip)=Cp:=by kernel_rfl
theorem Rr:cV Tryz.prog Tryz.f124.ntmps Tryz.f124.results.toList=[.t 4]:=by kernel_rfl
theorem Rp {args:List V} {h:af} {K:V→af→Prop} (ai:Nat.ble args.length 8=true) (H:b_ Tryz.prog Cp (aR.bb args) h fun e r ab=>e.ends∧∃ad,cL r ab [.t 4]=some ad∧K (oneOf ad) ab):bI Tryz.prog 124 args h K:=
 dy follows dc Tryz.func124 (c:=Tryz.f124.body.getD .skip) (by kernel_rfl) (by kernel_rfl) (by kernel_rfl) ai Rq Rr (by kernel_rfl) H
def Cq:bz:=
 .seq (.aB [eC 4])
 (.seq (.draw [ak 5 0,c_ 6 5,gv 7 6,bP 8 7,ak 9 0,c_ 10 9,dG 11 10,bP 12 11,Bz 13 8 12,ak 14 1,⟨some 15,.call 139 [(.t 13),(.t 14)],none,[13,14]⟩,ak 4 15] [(3,[10]),(7,[10])])
 (.ret))
theorem Rt:cc Tryz.prog Tryz.f125.ntmps (Tryz.f125.body.getD .skip)=Cq:=by kernel_rfl
theorem Ru:cV Tryz.prog Tryz.f125.ntmps Tryz.f125.results.toList=[.t 4]:=by kernel_rfl
theorem Rs {args:List V} {h:af} {K:V→af→Prop} (ai:Nat.ble args.length 16=true) (H:b_ Tryz.prog Cq (aR.bb args) h fun e r ab=>e.ends∧∃ad,cL r ab [.t 4]=some ad∧K (oneOf ad) ab):bI Tryz.prog 125 args h K:=
 dy follows dc Tryz.func125 (c:=Tryz.f125.body.getD .skip) (by kernel_rfl) (by kernel_rfl) (by kernel_rfl) ai Rt Ru (by kernel_rfl) H
def Im:bz:=
 .block 1 (.block 2 (.seq (.draw [ak 11 0,c_ 12 11,dG 13 12,bP 14 13,ak 15 0,c_ 16 15,gv 17 16,bP 18 17,kA 19 18,vv 20 14 19,ak 10 20] [])
 (.cond (.t 10)
 (.seq (.aB [ak 21 0,c_ 22 21,jH 23 22,⟨none,.st 1 (.t 23) (.c (.int .i64 253)),none,[23]⟩])
 (.ret))
 (.seq (.aB [ak 25 0,⟨some 26,.call 125 [(.t 25),(.c (.str [40,42]))],none,[25]⟩,ak 24 26])
 (.cond (.t 24)
 (.seq (.aB [ak 27 2,eu 28 27,ak 2 28])
 (.aB [ak 29 0,c_ 30 29,dG 31 30,bP 32 31,⟨some 33,.bin (.int .add) (.t 32) (.c (.int .i64 2)),none,[32]⟩,c_ 34 29,dG 35 34,⟨none,.st 1 (.t 35) (.t 33),none,[35,33]⟩]))
 (.seq (.aB [ak 37 0,⟨some 38,.call 125 [(.t 37),(.c (.str [42,41]))],none,[37]⟩,ak 36 38])
 (.cond (.t 36)
 (.seq (.aB [ak 39 2,⟨some 40,.bin (.int .sub) (.t 39) (.c (.int .i64 1)),none,[39]⟩,ak 2 40])
 (.seq (.aB [ak 41 0,c_ 42 41,dG 43 42,bP 44 43,⟨some 45,.bin (.int .add) (.t 44) (.c (.int .i64 2)),none,[44]⟩,c_ 46 41,dG 47 46,⟨none,.st 1 (.t 47) (.t 45),none,[47,45]⟩])
 (.seq (.aB [ak 48 2,vu 49 48])
 (.cond (.t 49)
 (.ret)
 (.skip)))))
 (.aB [ak 3 0,c_ 4 3,dG 5 4,bP 6 5,eu 7 6,c_ 8 3,dG 9 8,⟨none,.st 1 (.t 9) (.t 7),none,[9,7]⟩]))))))))
def Cr:bz:=
 .seq (.aB [ep 2])
 (.block 0 (.loop Im))
theorem Rw:cc Tryz.prog Tryz.f126.ntmps (Tryz.f126.body.getD .skip)=Cr:=by kernel_rfl
theorem Rx:cV Tryz.prog Tryz.f126.ntmps Tryz.f126.results.toList=[]:=by kernel_rfl
theorem Rv {args:List V} {h:af} {K:V→af→Prop} (ai:Nat.ble args.length 50=true) (H:b_ Tryz.prog Cr (aR.bb args) h fun e r ab=>e.ends∧∃ad,cL r ab []=some ad∧K (oneOf ad) ab):bI Tryz.prog 126 args h K:=
 dy follows dc Tryz.func126 (c:=Tryz.f126.body.getD .skip) (by kernel_rfl) (by kernel_rfl) (by kernel_rfl) ai Rw Rx (by kernel_rfl) H
def Io:bz:=
 .seq (.aB [gI 80 79 78])
 (.seq (.cond (.t 80)
 (.skip)
 (.exit 1))
 (.seq (.block 2 (.seq (.aB [⟨some 81,.cH 1 (.t 77) (.t 79),none,[77,79]⟩,bP 82 81,ak 5 82])
 (.seq (.aB [ak 83 0,ak 84 5,⟨some 85,.call 125 [(.t 83),(.t 84)],none,[83,84]⟩])
 (.cond (.t 85)
 (.seq (.aB [ak 86 0,c_ 87 86,dG 88 87,bP 89 88,ak 90 5,kA 91 90,vt 92 89 91,c_ 93 86,dG 94 93,⟨none,.st 1 (.t 94) (.t 92),none,[94,92]⟩])
 (.seq (.aB [ak 95 5,HD 96 95,⟨none,.st 4 (.t 2) (.t 96),none,[2,96]⟩])
 (.ret)))
 (.skip)))))
 (.aB [eu 97 79,ak 79 97])))
def Cs:bz:=
 .seq (.aB [vw 2])
 (.seq (.draw [ak 6 0,c_ 7 6,gv 8 7,bP 9 8,ak 10 0,c_ 11 10,dG 12 11,bP 13 12,x_ 14 9 13,ak 3 14] [])
 (.seq (.block 0 (.seq (.aB [ak 16 3,⟨some 17,.call 140 [(.t 16)],none,[16]⟩,ak 15 17])
 (.cond (.t 15)
 (.seq (.aB [ak 18 0,⟨some 19,.call 141 [(.t 18)],none,[18]⟩,⟨none,.st 4 (.t 2) (.t 19),none,[2,19]⟩])
 (.ret))
 (.seq (.aB [ak 21 3,⟨some 22,.bin (.int .eql) (.t 21) (.c (.int .u8 34)),none,[21]⟩,ak 20 22])
 (.cond (.t 20)
 (.seq (.aB [ak 23 0,⟨some 24,.call 142 [(.t 23)],none,[23]⟩,⟨none,.st 4 (.t 2) (.t 24),none,[2,24]⟩])
 (.ret))
 (.seq (.aB [ak 26 3,⟨some 27,.call 143 [(.t 26)],none,[26]⟩,ak 28 27,fJ 29 3 28,yb 30 29 28,fq 31 28 30,ak 25 31])
 (.cond (.t 25)
 (.seq (.aB [ak 32 0,⟨some 33,.call 144 [(.t 32),(.c (.int .i64 3))],none,[32]⟩,⟨none,.st 4 (.t 2) (.t 33),none,[2,33]⟩])
 (.ret))
 (.seq (.aB [ak 35 3,⟨some 36,.call 145 [(.t 35)],none,[35]⟩,ak 34 36])
 (.cond (.t 34)
 (.seq (.aB [ak 37 0,⟨some 38,.call 144 [(.t 37),(.c (.int .i64 4))],none,[37]⟩,⟨none,.st 4 (.t 2) (.t 38),none,[2,38]⟩])
 (.ret))
 (.seq (.draw [ak 40 3,⟨some 41,.bin (.int .eql) (.t 40) (.c (.int .u8 39)),none,[40]⟩,ak 42 41,dP 43 0 42,sZ 44 43 42,pH 45 44 42,fz 46 45 42,⟨some 47,.bin (.int .add) (.t 46) (.c (.int .i64 1)),(some (42,true)),[46,42]⟩,dP 48 0 42,sZ 49 48 42,q1 50 49 42,fz 51 50 42,⟨some 52,.len .str (.t 51),(some (42,true)),[51,42]⟩,⟨some 53,.bin (.int .lss) (.t 47) (.t 52),(some (42,true)),[47,52,42]⟩,dY 54 42 53,ak 55 54,dP 56 0 55,sZ 57 56 55,q1 58 57 55,fz 59 58 55,dP 60 0 55,sZ 61 60 55,pH 62 61 55,fz 63 62 55,⟨some 64,.bin (.int .add) (.t 63) (.c (.int .i64 1)),(some (55,true)),[63,55]⟩,⟨some 65,.ko (.t 59) (.t 64),(some (55,true)),[59,64,55]⟩,⟨some 66,.call 143 [(.t 65)],(some (55,true)),[65,55]⟩,dY 67 55 66,ak 39 67] [(6,[26]),(11,[26]),(19,[26]),(23,[26])])
 (.cond (.t 39)
 (.seq (.aB [ak 68 0,c_ 69 68,dG 70 69,bP 71 70,eu 72 71,c_ 73 68,dG 74 73,⟨none,.st 1 (.t 74) (.t 72),none,[74,72]⟩])
 (.seq (.aB [ak 75 0,⟨some 76,.call 144 [(.t 75),(.c (.int .i64 5))],none,[75]⟩,⟨none,.st 4 (.t 2) (.t 76),none,[2,76]⟩])
 (.ret)))
 (.skip))))))))))))
 (.seq (.seq (.aB [⟨some 77,.call 146 [],none,[]⟩,gJ 78 77,ep 79])
 (.block 1 (.loop Io)))
 (.seq (.aB [ak 98 0,c_ 99 98,jH 100 99,⟨none,.st 1 (.t 100) (.c (.int .i64 251)),none,[100]⟩])
 (.seq (.aB [BA 101,⟨none,.st 4 (.t 2) (.t 101),none,[2,101]⟩])
 (.ret))))))
theorem Rz:cc Tryz.prog Tryz.f127.ntmps (Tryz.f127.body.getD .skip)=Cs:=by kernel_rfl
theorem RA:cV Tryz.prog Tryz.f127.ntmps Tryz.f127.results.toList=[.gy 2 4]:=by kernel_rfl
theorem Ry {args:List V} {h:af} {K:V→af→Prop} (ai:Nat.ble args.length 102=true) (H:b_ Tryz.prog Cs (aR.bb args) h fun e r ab=>e.ends∧∃ad,cL r ab [.gy 2 4]=some ad∧K (oneOf ad) ab):bI Tryz.prog 127 args h K:=
 dy follows dc Tryz.func127 (c:=Tryz.f127.body.getD .skip) (by kernel_rfl) (by kernel_rfl) (by kernel_rfl) ai Rz RA (by kernel_rfl) H
def c138:bz:=
 .seq (.aB [ep 4])
 (.seq (.aB [ak 5 0,ak 6 1,⟨some 7,.call 153 [(.t 5),(.t 6)],none,[5,6]⟩,ak 4 7])
 (.ret))
theorem RF:cc Tryz.prog Tryz.f138.ntmps (Tryz.f138.body.getD .skip)=c138:=by kernel_rfl
theorem RG:cV Tryz.prog Tryz.f138.ntmps Tryz.f138.results.toList=[.t 4]:=by kernel_rfl
theorem RE {args:List V} {h:af} {K:V→af→Prop} (ai:Nat.ble args.length 8=true) (H:b_ Tryz.prog c138 (aR.bb args) h fun e r ab=>e.ends∧∃ad,cL r ab [.t 4]=some ad∧K (oneOf ad) ab):bI Tryz.prog 138 args h K:=
 dy follows dc Tryz.func138 (c:=Tryz.f138.body.getD .skip) (by kernel_rfl) (by kernel_rfl) (by kernel_rfl) ai RF RG (by kernel_rfl) H
def Ct:bz:=
 .seq (.aB [eC 4])
 (.seq (.aB [ak 5 0,ak 6 1,⟨some 7,.call 154 [(.t 5),(.t 6)],none,[5,6]⟩,ak 4 7])
 (.ret))
theorem RI:cc Tryz.prog Tryz.f139.ntmps (Tryz.f139.body.getD .skip)=Ct:=by kernel_rfl
theorem RJ:cV Tryz.prog Tryz.f139.ntmps Tryz.f139.results.toList=[.t 4]:=by kernel_rfl
theorem RH {args:List V} {h:af} {K:V→af→Prop} (ai:Nat.ble args.length 8=true) (H:b_ Tryz.prog Ct (aR.bb args) h fun e r ab=>e.ends∧∃ad,cL r ab [.t 4]=some ad∧K (oneOf ad) ab):bI Tryz.prog 139 args h K:=
 dy follows dc Tryz.func139 (c:=Tryz.f139.body.getD .skip) (by kernel_rfl) (by kernel_rfl) (by kernel_rfl) ai RI RJ (by kernel_rfl) H
def Cu:bz:=
 .seq (.aB [eC 2])
 (.seq (.aB [ak 3 0,⟨some 4,.bin (.int .geq) (.t 3) (.c (.int .u8 48)),none,[3]⟩,ak 5 4,dP 6 0 5,⟨some 7,.bin (.int .leq) (.t 6) (.c (.int .u8 57)),(some (5,true)),[6,5]⟩,dY 8 5 7,ak 2 8])
 (.ret))
theorem RM:cc Tryz.prog Tryz.f140.ntmps (Tryz.f140.body.getD .skip)=Cu:=by kernel_rfl
theorem RN:cV Tryz.prog Tryz.f140.ntmps Tryz.f140.results.toList=[.t 2]:=by kernel_rfl
theorem RL {args:List V} {h:af} {K:V→af→Prop} (ai:Nat.ble args.length 9=true) (H:b_ Tryz.prog Cu (aR.bb args) h fun e r ab=>e.ends∧∃ad,cL r ab [.t 2]=some ad∧K (oneOf ad) ab):bI Tryz.prog 140 args h K:=
 dy follows dc Tryz.func140 (c:=Tryz.f140.body.getD .skip) (by kernel_rfl) (by kernel_rfl) (by kernel_rfl) ai RM RN (by kernel_rfl) H
def Cv:bz:=
 .seq (.aB [vw 2])
 (.seq (.aB [ak 7 0,⟨some 8,.call 156 [(.t 7),(.c (.func 140 []))],none,[7]⟩,⟨some 9,.call 155 [(.t 8),(.c (.int .i64 10)),(.c (.int .i64 64))],none,[8]⟩,ak 6 9,jD 10 6,jE 11 6,ak 3 10,ak 4 11])
 (.seq (.seq (.aB [ak 12 4,⟨some 13,.bin (.jj true 5) (.t 12) (.c .nilIface),none,[12]⟩,ak 14 13,fJ 15 3 14,⟨some 16,.bin (.int .gtr) (.t 15) (.c (.int .u64 2147483647)),(some (14,false)),[15,14]⟩,fq 17 14 16])
 (.cond (.t 17)
 (.seq (.aB [ak 18 0,c_ 19 18,jH 20 19,⟨none,.st 1 (.t 20) (.c (.int .i64 254)),none,[20]⟩])
 (.seq (.aB [BA 21,⟨none,.st 4 (.t 2) (.t 21),none,[2,21]⟩])
 (.ret)))
 (.skip)))
 (.seq (.aB [ak 22 3,⟨some 23,.ir (.int .i64) (.t 22),none,[22]⟩,ak 5 23])
 (.seq (.seq (.aB [ak 24 5,⟨some 25,.bin (.int .gtr) (.t 24) (.c (.int .i64 1073741823)),none,[24]⟩])
 (.cond (.t 25)
 (.aB [ak 26 5,⟨some 27,.bin (.int .sub) (.t 26) (.c (.int .i64 2147483648)),none,[26]⟩,ak 5 27])
 (.skip)))
 (.seq (.aB [ak 28 5,⟨some 29,.build [(.int .i64 0),(.int .i64 0),(.int .i64 0),(.str [])] [(0,1,(.c (.int .i64 1))),(1,1,(.t 28))],none,[28]⟩,⟨none,.st 4 (.t 2) (.t 29),none,[2,29]⟩])
 (.ret))))))
theorem RP:cc Tryz.prog Tryz.f141.ntmps (Tryz.f141.body.getD .skip)=Cv:=by kernel_rfl
theorem RQ:cV Tryz.prog Tryz.f141.ntmps Tryz.f141.results.toList=[.gy 2 4]:=by kernel_rfl
theorem RO {args:List V} {h:af} {K:V→af→Prop} (ai:Nat.ble args.length 30=true) (H:b_ Tryz.prog Cv (aR.bb args) h fun e r ab=>e.ends∧∃ad,cL r ab [.gy 2 4]=some ad∧K (oneOf ad) ab):bI Tryz.prog 141 args h K:=
 dy follows dc Tryz.func141 (c:=Tryz.f141.body.getD .skip) (by kernel_rfl) (by kernel_rfl) (by kernel_rfl) ai RP RQ (by kernel_rfl) H
def Iq:bz:=
 .seq (.seq (.aB [ak 12 0,c_ 13 12,jH 14 13,bP 15 14,vu 16 15])
 (.cond (.t 16)
 (.skip)
 (.exit 0)))
 (.block 1 (.seq (.seq (.draw [ak 17 0,c_ 18 17,dG 19 18,bP 20 19,ak 21 0,c_ 22 21,gv 23 22,bP 24 23,kA 25 24,vv 26 20 25] [])
 (.cond (.t 26)
 (.seq (.aB [ak 27 0,c_ 28 27,jH 29 28,⟨none,.st 1 (.t 29) (.c (.int .i64 252)),none,[29]⟩])
 (.exit 0))
 (.skip)))
 (.seq (.draw [ak 30 0,c_ 31 30,gv 32 31,bP 33 32,ak 34 0,c_ 35 34,dG 36 35,bP 37 36,x_ 38 33 37,ak 4 38] [])
 (.block 2 (.seq (.aB [ak 51 4,⟨some 52,.bin (.int .eql) (.t 51) (.c (.int .u8 34)),none,[51]⟩,ak 50 52])
 (.cond (.t 50)
 (.seq (.aB [ak 53 0,c_ 54 53,dG 55 54,bP 56 55,eu 57 56,c_ 58 53,dG 59 58,⟨none,.st 1 (.t 59) (.t 57),none,[59,57]⟩])
 (.seq (.seq (.aB [ak 60 3,gJ 61 60,x8 62 61])
 (.cond (.t 62)
 (.aB [ak 63 0,c_ 64 63,jH 65 64,⟨none,.st 1 (.t 65) (.c (.int .i64 255)),none,[65]⟩])
 (.skip)))
 (.seq (.aB [ak 66 3,⟨some 67,.ir .str (.t 66),none,[66]⟩,⟨some 68,.build [(.int .i64 0),(.int .i64 0),(.int .i64 0),(.str [])] [(0,1,(.c (.int .i64 2))),(3,1,(.t 67))],none,[67]⟩,⟨none,.st 4 (.t 2) (.t 68),none,[2,68]⟩])
 (.ret))))
 (.seq (.aB [ak 70 4,⟨some 71,.bin (.int .eql) (.t 70) (.c (.int .u8 92)),none,[70]⟩,ak 69 71])
 (.cond (.t 69)
 (.aB [ak 72 3,ak 73 0,⟨some 74,.call 157 [(.t 73)],none,[73]⟩,⟨some 75,.jh 1 1 [(.int .u8 0)] [(0,1,(.t 74))],none,[74]⟩,⟨some 76,.app 1 (.t 72) (.t 75),none,[72,75]⟩,ak 3 76])
 (.seq (.aB [ak 78 4,⟨some 79,.bin (.int .lss) (.t 78) (.c (.int .u8 32)),none,[78]⟩,ak 80 79,fJ 81 4 80,⟨some 82,.bin (.int .eql) (.t 81) (.c (.int .u8 127)),(some (80,false)),[81,80]⟩,fq 83 80 82,ak 77 83])
 (.cond (.t 77)
 (.aB [ak 84 0,c_ 85 84,jH 86 85,⟨none,.st 1 (.t 86) (.c (.int .i64 252)),none,[86]⟩])
 (.seq (.aB [ak 39 0,c_ 40 39,dG 41 40,bP 42 41,eu 43 42,c_ 44 39,dG 45 44,⟨none,.st 1 (.t 45) (.t 43),none,[45,43]⟩])
 (.aB [ak 46 3,ak 47 4,⟨some 48,.jh 1 1 [(.int .u8 0)] [(0,1,(.t 47))],none,[47]⟩,⟨some 49,.app 1 (.t 46) (.t 48),none,[46,48]⟩,ak 3 49]))))))))))))
def Cw:bz:=
 .seq (.aB [vw 2])
 (.seq (.aB [ak 5 0,c_ 6 5,dG 7 6,bP 8 7,eu 9 8,c_ 10 5,dG 11 10,⟨none,.st 1 (.t 11) (.t 9),none,[11,9]⟩])
 (.seq (.aB [jF 3])
 (.seq (.block 0 (.loop Iq))
 (.seq (.aB [BA 87,⟨none,.st 4 (.t 2) (.t 87),none,[2,87]⟩])
 (.ret)))))
theorem RS:cc Tryz.prog Tryz.f142.ntmps (Tryz.f142.body.getD .skip)=Cw:=by kernel_rfl
theorem RT:cV Tryz.prog Tryz.f142.ntmps Tryz.f142.results.toList=[.gy 2 4]:=by kernel_rfl
theorem RR {args:List V} {h:af} {K:V→af→Prop} (ai:Nat.ble args.length 88=true) (H:b_ Tryz.prog Cw (aR.bb args) h fun e r ab=>e.ends∧∃ad,cL r ab [.gy 2 4]=some ad∧K (oneOf ad) ab):bI Tryz.prog 142 args h K:=
 dy follows dc Tryz.func142 (c:=Tryz.f142.body.getD .skip) (by kernel_rfl) (by kernel_rfl) (by kernel_rfl) ai RS RT (by kernel_rfl) H
def Cx:bz:=
 .seq (.aB [eC 2])
 (.seq (.aB [ak 3 0,⟨some 4,.bin (.int .geq) (.t 3) (.c (.int .u8 97)),none,[3]⟩,ak 5 4,dP 6 0 5,⟨some 7,.bin (.int .leq) (.t 6) (.c (.int .u8 122)),(some (5,true)),[6,5]⟩,dY 8 5 7,ak 2 8])
 (.ret))
theorem RV:cc Tryz.prog Tryz.f143.ntmps (Tryz.f143.body.getD .skip)=Cx:=by kernel_rfl
theorem RW:cV Tryz.prog Tryz.f143.ntmps Tryz.f143.results.toList=[.t 2]:=by kernel_rfl
theorem RU {args:List V} {h:af} {K:V→af→Prop} (ai:Nat.ble args.length 9=true) (H:b_ Tryz.prog Cx (aR.bb args) h fun e r ab=>e.ends∧∃ad,cL r ab [.t 2]=some ad∧K (oneOf ad) ab):bI Tryz.prog 143 args h K:=
 dy follows dc Tryz.func143 (c:=Tryz.f143.body.getD .skip) (by kernel_rfl) (by kernel_rfl) (by kernel_rfl) ai RV RW (by kernel_rfl) H
def Cy:bz:=
 .seq (.aB [vw 4])
 (.seq (.aB [ak 6 0,⟨some 7,.call 156 [(.t 6),(.c (.func 158 []))],none,[6]⟩,ak 5 7])
 (.seq (.block 0 (.seq (.aB [ak 9 1,⟨some 10,.bin (.int .eql) (.t 9) (.c (.int .i64 3)),none,[9]⟩,ak 11 10,dP 12 5 11,⟨some 13,.bin (.str .eql) (.t 12) (.c (.str [95])),(some (11,true)),[12,11]⟩,dY 14 11 13,ak 8 14])
 (.cond (.t 8)
 (.seq (.aB [ak 15 5,HD 16 15,⟨none,.st 4 (.t 4) (.t 16),none,[4,16]⟩])
 (.ret))
 (.seq (.aB [ak 18 1,⟨some 19,.bin (.int .eql) (.t 18) (.c (.int .i64 3)),none,[18]⟩,ak 20 19,dP 21 5 20,⟨some 22,.bin (.str .add) (.c (.str [32])) (.t 21),(some (20,true)),[21,20]⟩,⟨some 23,.bin (.str .add) (.t 22) (.c (.str [32])),(some (20,true)),[22,20]⟩,⟨some 24,.call 159 [(.c (.str [32,97,110,100,32,98,101,103,105,110,32,101,108,115,101,32,101,110,100,32,101,120,99,101,112,116,105,111,110,32,102,97,108,115,101,32,102,117,110,32,105,102,32,105,110,32,108,101,116,32,109,97,116,99,104,32,109,111,100,32,111,102,32,114,97,105,115,101,32,114,101,99,32,116,104,101,110,32,116,114,117,101,32,116,114,121,32,116,121,112,101,32,119,105,116,104,32])),(.t 23)],(some (20,true)),[23,20]⟩,dY 25 20 24,ak 17 25])
 (.cond (.t 17)
 (.seq (.aB [ak 26 5,⟨some 27,.build [(.int .i64 0),(.int .i64 0),(.int .i64 0),(.str [])] [(0,1,(.c (.int .i64 6))),(3,1,(.t 26))],none,[26]⟩,⟨none,.st 4 (.t 4) (.t 27),none,[4,27]⟩])
 (.ret))
 (.seq (.aB [ak 29 5,kA 30 29,⟨some 31,.bin (.int .gtr) (.t 30) (.c (.int .i64 64)),none,[30]⟩,ak 28 31])
 (.cond (.t 28)
 (.aB [ak 32 0,c_ 33 32,jH 34 33,⟨none,.st 1 (.t 34) (.c (.int .i64 255)),none,[34]⟩])
 (.skip))))))))
 (.seq (.aB [ak 35 1,ak 36 5,⟨some 37,.build [(.int .i64 0),(.int .i64 0),(.int .i64 0),(.str [])] [(0,1,(.t 35)),(3,1,(.t 36))],none,[35,36]⟩,⟨none,.st 4 (.t 4) (.t 37),none,[4,37]⟩])
 (.ret))))
theorem RY:cc Tryz.prog Tryz.f144.ntmps (Tryz.f144.body.getD .skip)=Cy:=by kernel_rfl
theorem RZ:cV Tryz.prog Tryz.f144.ntmps Tryz.f144.results.toList=[.gy 4 4]:=by kernel_rfl
theorem RX {args:List V} {h:af} {K:V→af→Prop} (ai:Nat.ble args.length 38=true) (H:b_ Tryz.prog Cy (aR.bb args) h fun e r ab=>e.ends∧∃ad,cL r ab [.gy 4 4]=some ad∧K (oneOf ad) ab):bI Tryz.prog 144 args h K:=
 dy follows dc Tryz.func144 (c:=Tryz.f144.body.getD .skip) (by kernel_rfl) (by kernel_rfl) (by kernel_rfl) ai RY RZ (by kernel_rfl) H
def Cz:bz:=
 .seq (.aB [eC 2])
 (.seq (.aB [ak 3 0,⟨some 4,.bin (.int .geq) (.t 3) (.c (.int .u8 65)),none,[3]⟩,ak 5 4,dP 6 0 5,⟨some 7,.bin (.int .leq) (.t 6) (.c (.int .u8 90)),(some (5,true)),[6,5]⟩,dY 8 5 7,ak 2 8])
 (.ret))
theorem R1:cc Tryz.prog Tryz.f145.ntmps (Tryz.f145.body.getD .skip)=Cz:=by kernel_rfl
theorem R2:cV Tryz.prog Tryz.f145.ntmps Tryz.f145.results.toList=[.t 2]:=by kernel_rfl
theorem R0 {args:List V} {h:af} {K:V→af→Prop} (ai:Nat.ble args.length 9=true) (H:b_ Tryz.prog Cz (aR.bb args) h fun e r ab=>e.ends∧∃ad,cL r ab [.t 2]=some ad∧K (oneOf ad) ab):bI Tryz.prog 145 args h K:=
 dy follows dc Tryz.func145 (c:=Tryz.f145.body.getD .skip) (by kernel_rfl) (by kernel_rfl) (by kernel_rfl) ai R1 R2 (by kernel_rfl) H
def CA:bz:=
 .seq (.aB [jF 0])
 (.seq (.aB [⟨some 1,.jh 17 1 [(.str [])] [(0,1,(.c (.str [59,59]))),(1,1,(.c (.str [58,61]))),(2,1,(.c (.str [45,62]))),(3,1,(.c (.str [60,61]))),(4,1,(.c (.str [59]))),(5,1,(.c (.str [40]))),(6,1,(.c (.str [41]))),(7,1,(.c (.str [44]))),(8,1,(.c (.str [61]))),(9,1,(.c (.str [60]))),(10,1,(.c (.str [43]))),(11,1,(.c (.str [45]))),(12,1,(.c (.str [42]))),(13,1,(.c (.str [47]))),(14,1,(.c (.str [124]))),(15,1,(.c (.str [33]))),(16,1,(.c (.str [95])))],none,[]⟩,ak 0 1])
 (.ret))
theorem R4:cc Tryz.prog Tryz.f146.ntmps (Tryz.f146.body.getD .skip)=CA:=by kernel_rfl
theorem R5:cV Tryz.prog Tryz.f146.ntmps Tryz.f146.results.toList=[.t 0]:=by kernel_rfl
theorem R3 {args:List V} {h:af} {K:V→af→Prop} (ai:Nat.ble args.length 2=true) (H:b_ Tryz.prog CA (aR.bb args) h fun e r ab=>e.ends∧∃ad,cL r ab [.t 0]=some ad∧K (oneOf ad) ab):bI Tryz.prog 146 args h K:=
 dy follows dc Tryz.func146 (c:=Tryz.f146.body.getD .skip) (by kernel_rfl) (by kernel_rfl) (by kernel_rfl) ai R4 R5 (by kernel_rfl) H
def CC:bz:=
 .seq (.aB [eC 4])
 (.seq (.aB [ak 5 0,kA 6 5,ak 7 1,kA 8 7,vv 9 6 8,ak 10 9,dP 11 0 10,dP 12 1 10,⟨some 13,.len .str (.t 12),(some (10,true)),[12,10]⟩,⟨some 14,.od (.t 11) none (some (.t 13)) none,(some (10,true)),[11,13,10]⟩,dP 15 1 10,Bv 16 14 15 10,dY 17 10 16,ak 4 17])
 (.ret))
theorem R7:cc Tryz.prog Tryz.f154.ntmps (Tryz.f154.body.getD .skip)=CC:=by kernel_rfl
theorem R8:cV Tryz.prog Tryz.f154.ntmps Tryz.f154.results.toList=[.t 4]:=by kernel_rfl
theorem R6 {args:List V} {h:af} {K:V→af→Prop} (ai:Nat.ble args.length 18=true) (H:b_ Tryz.prog CC (aR.bb args) h fun e r ab=>e.ends∧∃ad,cL r ab [.t 4]=some ad∧K (oneOf ad) ab):bI Tryz.prog 154 args h K:=
 dy follows dc Tryz.func154 (c:=Tryz.f154.body.getD .skip) (by kernel_rfl) (by kernel_rfl) (by kernel_rfl) ai R7 R8 (by kernel_rfl) H
def Ir:bz:=
 .seq (.seq (.draw [ak 10 0,c_ 11 10,dG 12 11,bP 13 12,ak 14 0,c_ 15 14,gv 16 15,bP 17 16,kA 18 17,gI 19 13 18,ak 20 19,dP 21 1 20,dP 22 0 20,sZ 23 22 20,q1 24 23 20,fz 25 24 20,dP 26 0 20,sZ 27 26 20,pH 28 27 20,fz 29 28 20,⟨some 30,.ko (.t 25) (.t 29),(some (20,true)),[25,29,20]⟩,⟨some 31,.lN (.t 21) [(.t 30)],(some (20,true)),[21,30,20]⟩,dY 32 20 31] [(3,[21]),(7,[21]),(15,[21]),(19,[21])])
 (.cond (.t 32)
 (.skip)
 (.exit 0)))
 (.block 1 (.aB [ak 33 0,c_ 34 33,dG 35 34,bP 36 35,eu 37 36,c_ 38 33,dG 39 38,⟨none,.st 1 (.t 39) (.t 37),none,[39,37]⟩]))
def CD:bz:=
 .seq (.aB [⟨some 4,.fh (.c (.str [])),none,[]⟩])
 (.seq (.aB [ak 6 0,c_ 7 6,dG 8 7,bP 9 8,ak 5 9])
 (.seq (.block 0 (.loop Ir))
 (.seq (.draw [ak 40 0,c_ 41 40,gv 42 41,bP 43 42,ak 44 5,ak 45 0,c_ 46 45,dG 47 46,bP 48 47,⟨some 49,.od (.t 43) (some (.t 44)) (some (.t 48)) none,none,[43,44,48]⟩,ak 4 49] [])
 (.ret))))
theorem R':cc Tryz.prog Tryz.f156.ntmps (Tryz.f156.body.getD .skip)=CD:=by kernel_rfl
theorem R_:cV Tryz.prog Tryz.f156.ntmps Tryz.f156.results.toList=[.t 4]:=by kernel_rfl
theorem R9 {args:List V} {h:af} {K:V→af→Prop} (ai:Nat.ble args.length 50=true) (H:b_ Tryz.prog CD (aR.bb args) h fun e r ab=>e.ends∧∃ad,cL r ab [.t 4]=some ad∧K (oneOf ad) ab):bI Tryz.prog 156 args h K:=
 dy follows dc Tryz.func156 (c:=Tryz.f156.body.getD .skip) (by kernel_rfl) (by kernel_rfl) (by kernel_rfl) ai R' R_ (by kernel_rfl) H
def CE:bz:=
 .seq (.aB [⟨some 2,.fh (.c (.int .u8 0)),none,[]⟩])
 (.seq (.aB [ak 7 0,c_ 8 7,dG 9 8,bP 10 9,eu 11 10,c_ 12 7,dG 13 12,⟨none,.st 1 (.t 13) (.t 11),none,[13,11]⟩])
 (.seq (.draw [ak 14 0,c_ 15 14,gv 16 15,bP 17 16,ak 18 0,c_ 19 18,dG 20 19,bP 21 20,Bz 22 17 21,ak 3 22] [])
 (.seq (.seq (.aB [ak 23 3,⟨some 24,.bin (.str .neq) (.t 23) (.c (.str [])),none,[23]⟩])
 (.cond (.t 24)
 (.seq (.aB [ak 25 3,ya 26 25,⟨some 27,.call 124 [(.c (.str [110,116,34,92])),(.t 26)],none,[26]⟩,ak 4 27])
 (.seq (.aB [ak 28 4,x' 29 28])
 (.cond (.t 29)
 (.seq (.aB [ak 30 0,c_ 31 30,dG 32 31,bP 33 32,eu 34 33,c_ 35 30,dG 36 35,⟨none,.st 1 (.t 36) (.t 34),none,[36,34]⟩])
 (.seq (.aB [ak 37 4,⟨some 38,.ko (.c (.str [10,9,34,92])) (.t 37),none,[37]⟩,ak 2 38])
 (.ret)))
 (.skip))))
 (.skip)))
 (.seq (.seq (.aB [ak 39 3,kA 40 39,⟨some 41,.bin (.int .geq) (.t 40) (.c (.int .i64 3)),none,[40]⟩,ak 42 41,dP 43 3 42,⟨some 44,.ko (.t 43) (.c (.int .i64 0)),(some (42,true)),[43,42]⟩,⟨some 45,.call 140 [(.t 44)],(some (42,true)),[44,42]⟩,dY 46 42 45,ak 47 46,dP 48 3 47,⟨some 49,.ko (.t 48) (.c (.int .i64 1)),(some (47,true)),[48,47]⟩,⟨some 50,.call 140 [(.t 49)],(some (47,true)),[49,47]⟩,dY 51 47 50,ak 52 51,dP 53 3 52,⟨some 54,.ko (.t 53) (.c (.int .i64 2)),(some (52,true)),[53,52]⟩,⟨some 55,.call 140 [(.t 54)],(some (52,true)),[54,52]⟩,dY 56 52 55])
 (.cond (.t 56)
 (.seq (.aB [ak 58 3,⟨some 59,.od (.t 58) none (some (.c (.int .i64 3))) none,none,[58]⟩,⟨some 60,.call 166 [(.t 59)],none,[59]⟩,ak 57 60,jD 61 57,jE 62 57,ak 5 61,ak 6 62])
 (.seq (.aB [ak 63 5,⟨some 64,.bin (.int .lss) (.t 63) (.c (.int .i64 256)),none,[63]⟩])
 (.cond (.t 64)
 (.seq (.aB [ak 65 0,c_ 66 65,dG 67 66,bP 68 67,⟨some 69,.bin (.int .add) (.t 68) (.c (.int .i64 3)),none,[68]⟩,c_ 70 65,dG 71 70,⟨none,.st 1 (.t 71) (.t 69),none,[71,69]⟩])
 (.seq (.aB [ak 72 5,⟨some 73,.ir (.int .u8) (.t 72),none,[72]⟩,ak 2 73])
 (.ret)))
 (.skip))))
 (.skip)))
 (.seq (.aB [ak 74 0,c_ 75 74,jH 76 75,⟨none,.st 1 (.t 76) (.c (.int .i64 252)),none,[76]⟩])
 (.seq (.aB [⟨some 2,.fh (.c (.int .u8 0)),none,[]⟩])
 (.ret)))))))
theorem Sb:cc Tryz.prog Tryz.f157.ntmps (Tryz.f157.body.getD .skip)=CE:=by kernel_rfl
theorem Sc:cV Tryz.prog Tryz.f157.ntmps Tryz.f157.results.toList=[.t 2]:=by kernel_rfl
theorem Sa {args:List V} {h:af} {K:V→af→Prop} (ai:Nat.ble args.length 77=true) (H:b_ Tryz.prog CE (aR.bb args) h fun e r ab=>e.ends∧∃ad,cL r ab [.t 2]=some ad∧K (oneOf ad) ab):bI Tryz.prog 157 args h K:=
 dy follows dc Tryz.func157 (c:=Tryz.f157.body.getD .skip) (by kernel_rfl) (by kernel_rfl) (by kernel_rfl) ai Sb Sc (by kernel_rfl) H
def CF:bz:=
 .seq (.aB [eC 2])
 (.seq (.aB [ak 3 0,⟨some 4,.call 140 [(.t 3)],none,[3]⟩,ak 5 4,fJ 6 0 5,⟨some 7,.call 143 [(.t 6)],(some (5,false)),[6,5]⟩,fq 8 5 7,ak 9 8,fJ 10 0 9,⟨some 11,.call 145 [(.t 10)],(some (9,false)),[10,9]⟩,fq 12 9 11,ak 13 12,fJ 14 0 13,yb 15 14 13,fq 16 13 15,ak 17 16,fJ 18 0 17,⟨some 19,.bin (.int .eql) (.t 18) (.c (.int .u8 39)),(some (17,false)),[18,17]⟩,fq 20 17 19,ak 2 20])
 (.ret))
theorem Se:cc Tryz.prog Tryz.f158.ntmps (Tryz.f158.body.getD .skip)=CF:=by kernel_rfl
theorem Sf:cV Tryz.prog Tryz.f158.ntmps Tryz.f158.results.toList=[.t 2]:=by kernel_rfl
theorem Sd {args:List V} {h:af} {K:V→af→Prop} (ai:Nat.ble args.length 21=true) (H:b_ Tryz.prog CF (aR.bb args) h fun e r ab=>e.ends∧∃ad,cL r ab [.t 2]=some ad∧K (oneOf ad) ab):bI Tryz.prog 158 args h K:=
 dy follows dc Tryz.func158 (c:=Tryz.f158.body.getD .skip) (by kernel_rfl) (by kernel_rfl) (by kernel_rfl) ai Se Sf (by kernel_rfl) H
theorem mi {f:FuncId} {args:List V} {h:af} {v:V} (c:bI Tryz.prog f args h fun x ab=>x=v∧ab=h):e7 Tryz.prog f args h v h:=by
 obtain ⟨x,ab,q,rfl,rfl⟩:=c
 exact q
def kJ (c:Int):Bool:=decide (48≤c)&&decide (c≤57)
def fQ (c:Int):Bool:=decide (97≤c)&&decide (c≤122)
def kM (c:Int):Bool:=decide (65≤c)&&decide (c≤90)
def qi (c:Int):Bool:=kJ c||fQ c||kM c||decide (c=95)||decide (c=39)
def k7 (c a b:Int):Bool:=decide (a≤c)&&decide (c≤b)
theorem th (c:Int) (h:af):e7 Tryz.prog 140 [.int .u8 c] h (.bool (kJ c)) h:=by
 refine mi (RL rfl (df ?_))
 unfold Cu
 simp +contextual only [↓aw,aH,simprocAttr]
 rfl
theorem A4 (c:Int) (h:af):e7 Tryz.prog 143 [.int .u8 c] h (.bool (fQ c)) h:=by
 refine mi (RU rfl (df ?_))
 unfold Cx
 simp +contextual only [↓aw,aH,simprocAttr]
 rfl
theorem J4 (c:Int) (h:af):e7 Tryz.prog 145 [.int .u8 c] h (.bool (kM c)) h:=by
 refine mi (R0 rfl (df ?_))
 unfold Cz
 simp +contextual only [↓aw,aH,simprocAttr]
 rfl
theorem u9 (c a b:Int) (h:af):e7 Tryz.prog 106 [.int .u8 c,.int .u8 a,.int .u8 b] h (.bool (k7 c a b)) h:=by
 refine mi (Q' rfl (df ?_))
 unfold Ck
 simp +contextual only [↓aw,aH,simprocAttr]
 rfl
theorem Wp (s p:List UInt8) (h:af):e7 Tryz.prog 154 [.str s,.str p] h (.bool (p.isPrefixOf s)) h:=by
 refine mi (R6 rfl (df ?_))
 unfold CC
 have a_:(0≤(p.length:Int))=True:=eq_true (by omega)
 by_cases ai:p.length≤s.length
 · have aa:((p.length:Int)≤(s.length:Int))=True:=eq_true (by omega)
   simp +contextual only [a_,aa,Int.toNat_natCast,↓aw,aH,simprocAttr]
   rw [Bool.eq_iff_iff,decide_eq_true_eq,List.isPrefixOf_iff_prefix,List.prefix_iff_eq_take]
   exact ⟨fun e=>e.symm,fun e=>e.symm⟩
 · have aa:((p.length:Int)≤(s.length:Int))=False:=eq_false (by omega)
   simp +contextual only [a_,aa,Int.toNat_natCast,↓aw,aH,simprocAttr]
   rw [eq_comm,←Bool.not_eq_true,List.isPrefixOf_iff_prefix]
   exact fun e=>ai e.length_le
theorem Wo (s p:List UInt8) (h:af):e7 Tryz.prog 139 [.str s,.str p] h (.bool (p.isPrefixOf s)) h:=by
 refine mi (RH rfl (df ?_))
 unfold Ct
 simp +contextual only [↓aw,aH,simprocAttr]
 refine fe (Wp s p h) ?_
 simp +contextual only [↓aw,aH,simprocAttr]
theorem aa4 (c:Int) (h:af):e7 Tryz.prog 158 [.int .u8 c] h (.bool (qi c)) h:=by
 refine mi (Sd rfl (df ?_))
 unfold CF
 simp +contextual only [↓aw,aH,simprocAttr]
 refine fe (th c h) ?_
 simp +contextual only [↓aw,aH,simprocAttr]
 refine zc (.bool (fQ c)) (fun aF=>by simp only [aF,↓aw,aH,simprocAttr];exact A4 _ _) ?_
 simp +contextual only [↓aw,aH,simprocAttr]
 refine zc (.bool (kM c)) (fun aF=>by simp only [aF,↓aw,aH,simprocAttr];exact J4 _ _) ?_
 simp +contextual only [↓aw,aH,simprocAttr]
 rfl
theorem Pt (c:Int) (h:af):e7 Tryz.prog 105 [.int .u8 c] h (.bool (k7 c 97 122||k7 c 65 90||k7 c 48 57||decide (c=95)||decide (c=39))) h:=by
 refine mi (Q7 rfl (df ?_))
 unfold Cj
 simp +contextual only [↓aw,aH,simprocAttr]
 refine fe (u9 c _ _ h) ?_
 simp +contextual only [↓aw,aH,simprocAttr]
 refine zc (.bool (k7 c 65 90)) (fun aF=>by simp only [aF,↓aw,aH,simprocAttr];exact u9 _ _ _ _) ?_
 simp +contextual only [↓aw,aH,simprocAttr]
 refine zc (.bool (k7 c 48 57)) (fun aF=>by simp only [aF,↓aw,aH,simprocAttr];exact u9 _ _ _ _) ?_
 simp +contextual only [↓aw,aH,simprocAttr]
theorem DY (s p:List UInt8) (at':Int) (rest:List V) (b:aO) (cl:Nat) (st:Bool) (h:af) (ah:h.get b=.bb (.str s::.int .i64 at'::rest) cl st) (a_:0≤at') (aa:at'≤s.length):
 e7 Tryz.prog 125 [.ptr b 0,.str p] h (.bool (p.isPrefixOf (s.drop at'.toNat))) h:=by
 refine mi (Rs rfl (df ?_))
 unfold Cq
 have f0:(0≤at')=True:=eq_true a_
 have f1:(at'≤(s.length:Int))=True:=eq_true aa
 simp +contextual only [ah,f0,f1,↓aw,aH,simprocAttr]
 refine fe (Wo _ p h) ?_
 simp +contextual only [ah,f0,f1,↓aw,aH,simprocAttr]
def ha:List UInt8→Int→Option Nat
 | [],_=>none
 | [_],_=>none
 | x::y::r,d=>if x=40∧y=42 then (ha r (d+1)).map (· +2) else if x=42∧y=41 then (if d-1=0 then some 2 else (ha r (d-1)).map (· +2)) else (ha (y::r) d).map (· +1)
theorem abP (r:List UInt8) (d:Int) (h:r≠[]):ha r d=if ([40,42]:List UInt8).isPrefixOf r=true then (ha (r.drop 2) (d+1)).map (· +2) else
 if ([42,41]:List UInt8).isPrefixOf r=true then (if d-1=0 then some 2 else (ha (r.drop 2) (d-1)).map (· +2)) else (ha (r.drop 1) d).map (· +1):=by
 match r,h with
 | [x],_=>simp [ha,List.isPrefixOf]
 | x::y::r,_=>
   have aN:(([40,42]:List UInt8).isPrefixOf (x::y::r)=true)=(x=40∧y=42):=by
    simp only [List.isPrefixOf,Bool.and_true,Bool.and_eq_true,beq_iff_eq]
    exact propext ⟨fun q=>⟨q.1.symm,q.2.symm⟩,fun q=>⟨q.1.symm,q.2.symm⟩⟩
   have bf:(([42,41]:List UInt8).isPrefixOf (x::y::r)=true)=(x=42∧y=41):=by
    simp only [List.isPrefixOf,Bool.and_true,Bool.and_eq_true,beq_iff_eq]
    exact propext ⟨fun q=>⟨q.1.symm,q.2.symm⟩,fun q=>⟨q.1.symm,q.2.symm⟩⟩
   rw [ha]
   simp only [aN,bf,List.drop_succ_cons,List.drop_zero]
theorem M0 {a b:UInt8} {r:List UInt8} (h:([a,b]:List UInt8).isPrefixOf r=true):2≤r.length:=by
 rw [List.isPrefixOf_iff_prefix] at h
 simpa using h.length_le
noncomputable def ew (s:List UInt8) (at' e:Int):b1:=.bb [.str s,.int .i64 at',.int .i64 e] 0 false
theorem abQ (s:List UInt8) (a0:Nat) (cz:Int) (b:aO) (h:af) (ah:h.get b=ew s a0 cz) (a_:a0≤s.length) (aQ:s.length≤100000) (fD:Old h b):
 bI Tryz.prog 126 [.ptr b 0] h fun x ab=>x=.tuple []∧Mod (fun x=>x=b) h ab∧(match ha (s.drop a0) 0 with
  | some n=>ab.get b=ew s ((a0+n:Nat):Int) cz∧a0+n≤s.length
  | none=>ab.get b=ew s (s.length:Int) 253):=by
 refine Rv rfl (df ?_)
 unfold Cr
 unfold ew at ah ⊢
 simp +contextual only [ah,↓aw,aH,simprocAttr]
 refine gE (fun r ab=>∃(a:Nat) (d:Int),a0≤a∧a≤s.length∧r 0=.ptr b 0∧r 2=.int .i64 d∧ab.get b=.bb [.str s,.int .i64 a,.int .i64 cz] 0 false∧Mod (fun x=>x=b) h ab∧-(a:Int)≤d∧d≤a∧
  ha (s.drop a0) 0=(ha (s.drop a) d).map (· + (a-a0))) (fun r ab=>s.length - ((iC (ab.get b) 1).getD .bad).toN) ?_ ?_
 · refine ⟨a0,0,Nat.le_refl _,a_,?_⟩
   simp only [↓aw,aH,simprocAttr]
   refine ⟨ah,Mod.refl _ _,by omega,by omega,?_⟩
   rw [Nat.sub_self]
   cases ha (s.drop a0) 0<;>rfl
 · rintro r ab ⟨a,d,nX,bL,bk,cb,aE,hm,d0,d1,bu⟩
   unfold Im
   by_cases e':(s.length:Int)≤(a:Int)
   · have br:a=s.length:=by omega
     have aV:ha (s.drop a) d=none:=by
      rw [br,List.drop_length]
      rfl
     rw [aV] at bu
     simp +contextual only [bk,cb,aE,e',↓aw,aH,simprocAttr]
     rw [bu]
     refine ⟨hm.set (fun _=>rfl) _,?_⟩
     simp only [br,Option.map_none,c8,if_true]
   · have dp:s.drop a≠[]:=by
      intro q
      rw [List.drop_eq_nil_iff] at q
      omega
     have wM:∀p,e7 Tryz.prog 125 [.ptr b 0,.str p] ab (.bool (p.isPrefixOf (s.drop a))) ab:=fun p=>by
      have:=DY s p (a:Int) [.int .i64 cz] b 0 false ab aE (by omega) (by omega)
      simpa using this
     have gC:=abP (s.drop a) d dp
     simp +contextual only [bk,cb,aE,e',↓aw,aH,simprocAttr]
     refine fe (wM _) ?_
     cases hn:([40,42]:List UInt8).isPrefixOf (s.drop a) with
     | true=>
       have ae:=M0 hn
       rw [List.length_drop] at ae
       rw [hn,if_pos rfl] at gC
       have bN:IntKind.i64.wrap (d+1)=d+1:=wrap_i64 (by omega) (by omega)
       have bM:IntKind.i64.wrap ((a:Int)+2)=((a+2:Nat):Int):=by rw [wrap_i64 (by omega) (by omega)];rfl
       simp +contextual only [bk,cb,aE,bN,bM,↓aw,aH,simprocAttr]
       refine ⟨⟨a+2,d+1,by omega,by omega,rfl,rfl,hm.set (fun _=>rfl) _,by omega,by omega,?_⟩,by omega⟩
       rw [bu,gC,List.drop_drop,Option.map_map]
       congr 1
       funext q
       simp only [Function.comp]
       omega
     | false=>
       rw [hn,if_neg (by decide)] at gC
       simp +contextual only [bk,cb,aE,↓aw,aH,simprocAttr]
       refine fe (wM _) ?_
       cases gR:([42,41]:List UInt8).isPrefixOf (s.drop a) with
       | true=>
         have ae:=M0 gR
         rw [List.length_drop] at ae
         rw [gR,if_pos rfl] at gC
         have bN:IntKind.i64.wrap (d-1)=d-1:=wrap_i64 (by omega) (by omega)
         have bM:IntKind.i64.wrap ((a:Int)+2)=((a+2:Nat):Int):=by rw [wrap_i64 (by omega) (by omega)];rfl
         by_cases a1:d-1=0
         · rw [if_pos a1] at gC
           obtain rfl:d=1:=by omega
           have ar:IntKind.i64.wrap 0=0:=rfl
           simp +contextual only [bk,cb,aE,ar,bM,↓aw,aH,simprocAttr]
           rw [bu,gC]
           refine ⟨hm.set (fun _=>rfl) _,?_⟩
           simp only [Option.map_some,c8,if_true]
           refine ⟨?_,by omega⟩
           rw [show a0 + (2 + (a-a0))=a+2 from by omega]
         · rw [if_neg a1] at gC
           simp +contextual only [bk,cb,aE,bN,bM,a1,↓aw,aH,simprocAttr]
           refine ⟨⟨a+2,d-1,by omega,by omega,rfl,rfl,hm.set (fun _=>rfl) _,by omega,by omega,?_⟩,by omega⟩
           rw [bu,gC,List.drop_drop,Option.map_map]
           congr 1
           funext q
           simp only [Function.comp]
           omega
       | false=>
         rw [gR,if_neg (by decide)] at gC
         have bM:IntKind.i64.wrap ((a:Int)+1)=((a+1:Nat):Int):=by rw [wrap_i64 (by omega) (by omega)];rfl
         simp +contextual only [bk,cb,aE,bM,↓aw,aH,simprocAttr]
         refine ⟨⟨a+1,d,by omega,by omega,rfl,rfl,hm.set (fun _=>rfl) _,by omega,by omega,?_⟩,by omega⟩
         rw [bu,gC,List.drop_drop,Option.map_map]
         congr 1
         funext q
         simp only [Function.comp]
         omega
theorem drop_cons {s:List UInt8} {a:Nat} (h:a<s.length):s.drop a=s[a]::s.drop (a+1):=List.drop_eq_getElem_cons h
theorem Ot (p:UInt8→Bool):∀l:List UInt8,(l.takeWhile p).length≤l.length
 | []=>by simp
 | x::l=>by
   simp only [List.takeWhile_cons]
   split
   · simpa using Ot p l
   · simp
theorem NM (s:List UInt8) (a0:Nat) (cz:Int) (b:aO) (g:FuncId) (p:Int→Bool) (h:af) (ah:h.get b=ew s a0 cz) (a_:a0≤s.length) (aQ:s.length≤100000) (aZ:(g=4294967296)=False)
 (ag:∀c h,e7 Tryz.prog g [.int .u8 c] h (.bool (p c)) h):
 bI Tryz.prog 156 [.ptr b 0,.func g []] h fun x ab=>x=.str ((s.drop a0).takeWhile fun c=>p c.toNat)∧Mod (fun x=>x=b) h ab∧ab.get b=ew s ((a0 + ((s.drop a0).takeWhile fun c=>p c.toNat).length:Nat):Int) cz:=by
 refine R9 rfl (df ?_)
 unfold CD
 unfold ew at ah ⊢
 simp +contextual only [ah,↓aw,aH,simprocAttr]
 refine gE (fun r ab=>∃(a:Nat),a0≤a∧a≤s.length∧r 0=.ptr b 0∧r 1=.func g []∧r 5=.int .i64 a0∧ab.get b=.bb [.str s,.int .i64 a,.int .i64 cz] 0 false∧Mod (fun x=>x=b) h ab∧
  ((s.drop a0).takeWhile fun c=>p c.toNat)=(s.drop a0).take (a-a0)++((s.drop a).takeWhile fun c=>p c.toNat)) (fun r ab=>s.length - ((iC (ab.get b) 1).getD .bad).toN) ?_ ?_
 · refine ⟨a0,Nat.le_refl _,a_,?_⟩
   simp only [↓aw,aH,simprocAttr]
   refine ⟨ah,Mod.refl _ _,?_⟩
   rw [Nat.sub_self]
   rfl
 · rintro r ab ⟨a,nX,bL,bk,bw,dK,aE,hm,bu⟩
   unfold Ir
   have fin:((s.drop a).takeWhile fun c=>p c.toNat)=[]→V.str (((s.drop a0).take (a-a0)))=V.str ((s.drop a0).takeWhile fun c=>p c.toNat)∧Mod (fun x=>x=b) h ab∧b1.bb [V.str s,V.int .i64 a,V.int .i64 cz] 0 false=b1.bb [V.str s,V.int .i64 ((a0 + ((s.drop a0).takeWhile fun c=>p c.toNat).length:Nat):Int),V.int .i64 cz] 0 false:=by
    intro q
    rw [q,List.append_nil] at bu
    rw [bu,List.length_take,List.length_drop]
    refine ⟨rfl,hm,?_⟩
    rw [show a0+min (a-a0) (s.length-a0)=a from by omega]
   have f0:(0≤(a0:Int))=True:=eq_true (by omega)
   have f1:((a0:Int)≤(a:Int))=True:=eq_true (by omega)
   have f2:((a:Int)≤(s.length:Int))=True:=eq_true (by omega)
   have f3:(0≤(a:Int))=True:=eq_true (by omega)
   by_cases e':(a:Int) < (s.length:Int)
   · have aP:a<s.length:=by omega
     rw [drop_cons aP,List.takeWhile_cons] at bu fin
     simp +contextual only [aZ,if_false,bk,bw,dK,aE,e',f0,f1,f2,f3,List.getElem?_eq_getElem aP,Int.toNat_natCast,↓aw,aH,simprocAttr]
     refine fe (ag _ _) ?_
     cases mQ:p ((s[a]).toNat:Int) with
     | true=>
       rw [mQ] at bu
       have bM:IntKind.i64.wrap ((a:Int)+1)=((a+1:Nat):Int):=by rw [wrap_i64 (by omega) (by omega)];rfl
       simp +contextual only [mQ,bk,bw,dK,aE,e',f0,f1,f2,f3,bM,List.getElem?_eq_getElem aP,Int.toNat_natCast,↓aw,aH,simprocAttr]
       refine ⟨⟨a+1,by omega,by omega,rfl,hm.set (fun _=>rfl) _,?_⟩,by omega⟩
       rw [bu,if_pos rfl]
       have Ex:a-a0 < (s.drop a0).length:=by rw [List.length_drop];omega
       rw [show a+1-a0=a-a0+1 from by omega,←List.take_append_getElem Ex,List.append_assoc]
       congr 1
       rw [List.getElem_drop]
       simp only [show a0 + (a-a0)=a from by omega]
       rfl
     | false=>
       rw [mQ] at fin
       simp +contextual only [mQ,bk,bw,dK,aE,e',f0,f1,f2,f3,List.getElem?_eq_getElem aP,Int.toNat_natCast,↓aw,aH,simprocAttr]
       exact fin rfl
   · have br:a=s.length:=by omega
     simp +contextual only [aZ,if_false,bk,bw,dK,aE,e',f0,f1,f2,f3,Int.toNat_natCast,↓aw,aH,simprocAttr]
     refine fin ?_
     rw [br,List.drop_length]
     rfl
end Go.Proofs.YthemdhlheglhoaaGreatDoor
