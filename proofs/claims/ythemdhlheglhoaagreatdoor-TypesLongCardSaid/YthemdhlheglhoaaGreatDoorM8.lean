/- The chapter's functions, walked by the abstract machine: plain lemmas, no condition. Printed by a program from longer texts: names made short. -/
import Derived.Test.YthemdhlheglhoaaGreatDoorM7
import Derived.Test.YthemdhlheglhoaaGreatDoorM4
import Derived.Test.YthemdhlheglhoaaGreatDoorM5
import Derived.WalkSmall
import Derived.Test.YthemdhlheglhoaaGreatDoorM6
import Derived.Shelf.Strings.Search3
import Derived.Shelf.Strings.OnBuilder
import Derived.Shelf.SlIterI.Nil
import Derived.Shelf.SortM.Plain
import Derived.Shelf.SortM.SortNone
import Derived.MakeChecks
import Derived.Shelf.Vars
import Derived.Lay
import Derived.LaidLaws
import Derived.Lib.LaidTab
import Derived.Lib.LaidU8T
import Derived.Test.YthemdhlheglhoaaGreatDoorRows
set_option linter.unusedSectionVars false
set_option linter.unusedSimpArgs false
set_option linter.unusedVariables false
set_option maxHeartbeats 64000000
noncomputable section
namespace Go.Proofs.YthemdhlheglhoaaGreatDoor
section
open Go a8 Go.RowKit
theorem A2 {w:World} {p:Addr} {v:Value} (h:w.cell? p=some v):p.block<w.heap.size:=by
 unfold World.cell? at h;by_cases q:p.block<w.heap.size
 . exact q
 . rw [Array.getElem?_eq_none (by omega)] at h;cases h
def xO (w:World) (g:Nat):Prop:=∃aT,w.cell? ⟨g,0,none⟩=some aT/\(aT=.nilIface\/∃Hc Vk,aT=.iface Hc Vk)
theorem xO.hE {w an:World} {g:Nat} (h:xO w g) (ae:Below w.heap.size w an):xO an g:=by obtain ⟨aT,aa,ad⟩:=h;exact ⟨aT,by rw [ae.cell (A2 aa)];exact aa,ad⟩
structure HW (w:World):Prop where
 Xq:Lib.Utf8Tabs 2 3 w
 maxLen:∃m,w.cell? ⟨0,0,none⟩=some (.int .i64 m)
 RC:xO w 7
 Vs:Lib.TabIs Tryz.prog w "internal/strconv.uint64pow10" .u64 Lib.pow10Tab
instance lay:Lay where
 ok w:=HW w
 hE:=by
  intro w an h ae;refine ⟨?_,?_,h.RC.hE ae,?_⟩
  . obtain ⟨aa,ad⟩:=h.Xq;refine ⟨fun c aD=>?_,fun i ao=>?_⟩
    . rw [ae.cell (A2 (aa c aD))];exact aa c aD
    . obtain ⟨ar,aw⟩:=ad i ao;rw [ae.cell (A2 ar),ae.cell (A2 aw)];exact ⟨ar,aw⟩
  . obtain ⟨m,q⟩:=h.maxLen;exact ⟨m,by rw [ae.cell (A2 q)];exact q⟩
  . have aB:Tryz.prog.globalNamed "internal/strconv.uint64pow10"=some 1:=by kernel_rfl
    have aA:1<w.heap.size:=by
     have q:=h.Vs;unfold Lib.TabIs World.var? at q;rw [aB] at q;by_cases aO:1<w.heap.size
     . exact aO
     . simp only [Option.bind_some] at q;rw [Array.getElem?_eq_none (by omega)] at q;cases q
    exact var?_below ae aB aA h.Vs
section
open Go.Shelf
def Tryz.ajl:Go.Shelf.Ren:=⟨fun | 144=>159 | 143=>167 | 219=>177 | 217=>138 | 225=>181 | 224=>182 | 267=>183 | 266=>153 | 314=>184 | n=>n,fun | 9=>9 | 4=>4 | 3=>3 | 5=>5 | 46=>141 | 146=>221 | 51=>164 | n=>n,fun | 1=>0 | n=>n⟩
theorem Tryz.ajk:Go.Proofs.Lays.n144 Tryz.prog Tryz.ajl:={
 mixed:=by kernel_rfl,
 f143:=Tryz.func167.trans (congrArg some (by kernel_rfl)),
 f144:=Tryz.func159.trans (congrArg some (by kernel_rfl)),
 f217:=Tryz.func138.trans (congrArg some (by kernel_rfl)),
 f219:=Tryz.func177.trans (congrArg some (by kernel_rfl)),
 f224:=Tryz.func182.trans (congrArg some (by kernel_rfl)),
 f225:=Tryz.func181.trans (congrArg some (by kernel_rfl)),
 f266:=Tryz.func153.trans (congrArg some (by kernel_rfl)),
 f267:=Tryz.func183.trans (congrArg some (by kernel_rfl)),
 f314:=Tryz.func184.trans (congrArg some (by kernel_rfl)),
 t3:=Tryz.underlying3,
 a3:=Tryz.isAgg3,
 z3:=Tryz.sizeOf3,
 v3:=Tryz.zeroValue3,
 t4:=Tryz.underlying4,
 a4:=Tryz.isAgg4,
 z4:=Tryz.sizeOf4,
 v4:=Tryz.zeroValue4,
 t5:=Tryz.underlying5,
 a5:=Tryz.isAgg5,
 z5:=Tryz.sizeOf5,
 v5:=Tryz.zeroValue5,
 t9:=Tryz.underlying9,
 a9:=Tryz.isAgg9,
 z9:=Tryz.sizeOf9,
 v9:=Tryz.zeroValue9,
 t46:=Tryz.underlying141,
 a46:=Tryz.isAgg141,
 z46:=Tryz.sizeOf141,
 v46:=Tryz.zeroValue141,
 t51:=Tryz.underlying164,
 a51:=Tryz.isAgg164,
 z51:=Tryz.sizeOf164,
 v51:=Tryz.zeroValue164,
 t146:=Tryz.underlying221,
 a146:=Tryz.isAgg221,
 z146:=Tryz.sizeOf221,
 v146:=Tryz.zeroValue221,
 g1:=by kernel_rfl}
def Tryz.TT:Go.Shelf.Ren:=⟨fun | 156=>72 | 165=>95 | 166=>96 | 169=>97 | 240=>110 | 241=>111 | 276=>129 | 277=>130 | n=>n,fun | 31=>98 | 9=>9 | 3=>3 | 4=>4 | 0=>0 | 20=>20 | 72=>130 | 76=>134 | 70=>127 | 37=>128 | 75=>133 | 127=>155 | 164=>174 | 5=>5 | 80=>136 | n=>n,fun | n=>n⟩
theorem Tryz.TS:Go.Proofs.Lays.n156 Tryz.prog Tryz.TT:={
 mixed:=by kernel_rfl,
 f156:=Tryz.func72.trans (congrArg some (by kernel_rfl)),
 f165:=Tryz.func95.trans (congrArg some (by kernel_rfl)),
 f166:=Tryz.func96.trans (congrArg some (by kernel_rfl)),
 f169:=Tryz.func97.trans (congrArg some (by kernel_rfl)),
 f240:=Tryz.func110.trans (congrArg some (by kernel_rfl)),
 f241:=Tryz.func111.trans (congrArg some (by kernel_rfl)),
 f276:=Tryz.func129.trans (congrArg some (by kernel_rfl)),
 f277:=Tryz.func130.trans (congrArg some (by kernel_rfl)),
 t0:=Tryz.underlying0,
 a0:=Tryz.isAgg0,
 z0:=Tryz.sizeOf0,
 v0:=Tryz.zeroValue0,
 t3:=Tryz.underlying3,
 a3:=Tryz.isAgg3,
 z3:=Tryz.sizeOf3,
 v3:=Tryz.zeroValue3,
 t4:=Tryz.underlying4,
 a4:=Tryz.isAgg4,
 z4:=Tryz.sizeOf4,
 v4:=Tryz.zeroValue4,
 t9:=Tryz.underlying9,
 a9:=Tryz.isAgg9,
 z9:=Tryz.sizeOf9,
 v9:=Tryz.zeroValue9,
 t20:=Tryz.underlying20,
 a20:=Tryz.isAgg20,
 z20:=Tryz.sizeOf20,
 v20:=Tryz.zeroValue20,
 t31:=Tryz.underlying98,
 a31:=Tryz.isAgg98,
 z31:=Tryz.sizeOf98,
 v31:=Tryz.zeroValue98,
 t37:=Tryz.underlying128,
 a37:=Tryz.isAgg128,
 z37:=Tryz.sizeOf128,
 v37:=Tryz.zeroValue128,
 t70:=Tryz.underlying127,
 a70:=Tryz.isAgg127,
 z70:=Tryz.sizeOf127,
 v70:=Tryz.zeroValue127,
 t72:=Tryz.underlying130,
 a72:=Tryz.isAgg130,
 z72:=Tryz.sizeOf130,
 v72:=Tryz.zeroValue130,
 t75:=Tryz.underlying133,
 a75:=Tryz.isAgg133,
 z75:=Tryz.sizeOf133,
 v75:=Tryz.zeroValue133,
 t76:=Tryz.underlying134,
 a76:=Tryz.isAgg134,
 z76:=Tryz.sizeOf134,
 v76:=Tryz.zeroValue134,
 t127:=Tryz.underlying155,
 a127:=Tryz.isAgg155,
 z127:=Tryz.sizeOf155,
 v127:=Tryz.zeroValue155,
 t164:=Tryz.underlying174,
 a164:=Tryz.isAgg174,
 z164:=Tryz.sizeOf174,
 v164:=Tryz.zeroValue174}
theorem Tryz.RE:Builder.Extra Tryz.prog Tryz.TT where
 sizeBuilder:=by kernel_rfl
 liesBuilder:=by kernel_rfl
 t5:=Tryz.underlying5
 a5:=Tryz.isAgg5
 z5:=Tryz.sizeOf5
 v5:=Tryz.zeroValue5
 infoByte:=by kernel_rfl
 cellsByte:=by kernel_rfl
 sizeByte:=by kernel_rfl
 neB5:=by decide
def Tryz.TN:Go.Shelf.Ren:=⟨fun | 7=>51 | 10=>78 | n=>n,fun | 23=>65 | 26=>3 | 3=>67 | 28=>76 | 0=>0 | 27=>75 | 33=>111 | 4=>4 | n=>n,fun | n=>n⟩
theorem Tryz.aie:Go.Proofs.SlLaysZI.n7 Tryz.prog Tryz.TN where
 mixed:=by kernel_rfl
 f7:=⟨"maps.Keys[gimlet/types.maker,int,*gimlet/types.node]",by decide,Tryz.func51.trans (congrArg some (by kernel_rfl))⟩
 f10:=⟨"maps.Keys[gimlet/types.maker,int,*gimlet/types.node]$1",by decide,Tryz.func78.trans (congrArg some (by kernel_rfl))⟩
 t0:=Tryz.underlying0
 a0:=Tryz.isAgg0
 z0:=Tryz.sizeOf0
 v0:=Tryz.zeroValue0
 t4:=Tryz.underlying4
 a4:=Tryz.isAgg4
 z4:=Tryz.sizeOf4
 v4:=Tryz.zeroValue4
 t23:=Tryz.underlying65
 a23:=Tryz.isAgg65
 z23:=Tryz.sizeOf65
 v23:=Tryz.zeroValue65
 t26:=Tryz.underlying3
 a26:=Tryz.isAgg3
 z26:=Tryz.sizeOf3
 v26:=Tryz.zeroValue3
 t27:=Tryz.underlying75
 a27:=Tryz.isAgg75
 z27:=Tryz.sizeOf75
 v27:=Tryz.zeroValue75
 t28:=Tryz.underlying76
 a28:=Tryz.isAgg76
 z28:=Tryz.sizeOf76
 v28:=Tryz.zeroValue76
 t33:=Tryz.underlying111
 a33:=Tryz.isAgg111
 z33:=Tryz.sizeOf111
 v33:=Tryz.zeroValue111
def Tryz.WJ:Go.Shelf.Ren:=⟨fun | 6=>50 | 8=>76 | 9=>77 | 11=>100 | 13=>102 | 12=>101 | 23=>121 | 24=>122 | 14=>112 | 15=>113 | 16=>114 | 17=>115 | 18=>116 | 19=>117 | 20=>118 | 21=>119 | 22=>120 | 25=>131 | 26=>132 | 27=>133 | 28=>134 | 29=>135 | 30=>136 | 31=>151 | n=>n,fun | 26=>3 | 28=>76 | 24=>51 | 0=>0 | 3=>3 | 37=>141 | 48=>164 | 50=>166 | 4=>4 | 40=>158 | 39=>157 | 45=>112 | 5=>5 | 9=>9 | 51=>177 | 55=>90 | 57=>190 | 58=>92 | 33=>111 | n=>n,fun | n=>n⟩
theorem Tryz.ane:Go.Proofs.SlLaysZI.n6 Tryz.prog Tryz.WJ where
 mixed:=by kernel_rfl
 f6:=⟨"slices.Sorted[int]",by decide,Tryz.func50.trans (congrArg some (by kernel_rfl))⟩
 f8:=⟨"slices.Collect[int]",by decide,Tryz.func76.trans (congrArg some (by kernel_rfl))⟩
 f11:=⟨"slices.AppendSeq[[]int,int]",by decide,Tryz.func100.trans (congrArg some (by kernel_rfl))⟩
 t0:=Tryz.underlying0
 a0:=Tryz.isAgg0
 z0:=Tryz.sizeOf0
 v0:=Tryz.zeroValue0
 t24:=Tryz.underlying51
 a24:=Tryz.isAgg51
 z24:=Tryz.sizeOf51
 v24:=Tryz.zeroValue51
 t26:=Tryz.underlying3
 a26:=Tryz.isAgg3
 z26:=Tryz.sizeOf3
 v26:=Tryz.zeroValue3
 t28:=Tryz.underlying76
 a28:=Tryz.isAgg76
 z28:=Tryz.sizeOf76
 v28:=Tryz.zeroValue76
 i26:=by kernel_rfl
def Tryz.ana:Go.Shelf.Ren:=⟨fun | 5=>77 | 8=>102 | 7=>101 | 19=>121 | 20=>122 | 10=>112 | 11=>113 | 12=>114 | 13=>115 | 14=>116 | 15=>117 | 16=>118 | 17=>119 | 18=>120 | 30=>131 | 31=>132 | 32=>133 | 33=>134 | 34=>135 | 35=>136 | 40=>151 | n=>n,fun | 23=>51 | 25=>3 | 3=>3 | 32=>141 | 22=>51 | 0=>0 | 44=>164 | 46=>166 | 4=>4 | 36=>158 | 35=>157 | 41=>112 | 5=>5 | 9=>9 | 53=>177 | 57=>90 | 63=>190 | 64=>92 | n=>n,fun | n=>n⟩
theorem Tryz.WH:Go.Proofs.SlLaysM.n5 Tryz.prog Tryz.ana where
 mixed:=by kernel_rfl
 f5:=⟨"slices.Sort[[]int,int]",by decide,Tryz.func77.trans (congrArg some (by kernel_rfl))⟩
 f7:=⟨"slices.pdqsortOrdered[int]",by decide,Tryz.func101.trans (congrArg some (by kernel_rfl))⟩
 f8:=Tryz.func102.trans (congrArg some (by kernel_rfl))
 f10:=⟨"slices.insertionSortOrdered[int]",by decide,Tryz.func112.trans (congrArg some (by kernel_rfl))⟩
 f11:=⟨"slices.heapSortOrdered[int]",by decide,Tryz.func113.trans (congrArg some (by kernel_rfl))⟩
 f12:=⟨"slices.breakPatternsOrdered[int]",by decide,Tryz.func114.trans (congrArg some (by kernel_rfl))⟩
 f13:=⟨"slices.choosePivotOrdered[int]",by decide,Tryz.func115.trans (congrArg some (by kernel_rfl))⟩
 f14:=⟨"slices.reverseRangeOrdered[int]",by decide,Tryz.func116.trans (congrArg some (by kernel_rfl))⟩
 f15:=⟨"slices.partialInsertionSortOrdered[int]",by decide,Tryz.func117.trans (congrArg some (by kernel_rfl))⟩
 f16:=⟨"cmp.Less[int]",by decide,Tryz.func118.trans (congrArg some (by kernel_rfl))⟩
 f17:=⟨"slices.partitionEqualOrdered[int]",by decide,Tryz.func119.trans (congrArg some (by kernel_rfl))⟩
 f18:=⟨"slices.partitionOrdered[int]",by decide,Tryz.func120.trans (congrArg some (by kernel_rfl))⟩
 f19:=Tryz.func121.trans (congrArg some (by kernel_rfl))
 f20:=Tryz.func122.trans (congrArg some (by kernel_rfl))
 f30:=⟨"slices.siftDownOrdered[int]",by decide,Tryz.func131.trans (congrArg some (by kernel_rfl))⟩
 f31:=Tryz.func132.trans (congrArg some (by kernel_rfl))
 f32:=Tryz.func133.trans (congrArg some (by kernel_rfl))
 f33:=⟨"slices.medianAdjacentOrdered[int]",by decide,Tryz.func134.trans (congrArg some (by kernel_rfl))⟩
 f34:=⟨"slices.medianOrdered[int]",by decide,Tryz.func135.trans (congrArg some (by kernel_rfl))⟩
 f35:=⟨"cmp.isNaN[int]",by decide,Tryz.func136.trans (congrArg some (by kernel_rfl))⟩
 f40:=⟨"slices.order2Ordered[int]",by decide,Tryz.func151.trans (congrArg some (by kernel_rfl))⟩
 t0:=Tryz.underlying0
 a0:=Tryz.isAgg0
 z0:=Tryz.sizeOf0
 v0:=Tryz.zeroValue0
 t3:=Tryz.underlying3
 a3:=Tryz.isAgg3
 z3:=Tryz.sizeOf3
 v3:=Tryz.zeroValue3
 t4:=Tryz.underlying4
 a4:=Tryz.isAgg4
 z4:=Tryz.sizeOf4
 v4:=Tryz.zeroValue4
 t5:=Tryz.underlying5
 a5:=Tryz.isAgg5
 z5:=Tryz.sizeOf5
 v5:=Tryz.zeroValue5
 t9:=Tryz.underlying9
 a9:=Tryz.isAgg9
 z9:=Tryz.sizeOf9
 v9:=Tryz.zeroValue9
 t22:=Tryz.underlying51
 a22:=Tryz.isAgg51
 z22:=Tryz.sizeOf51
 v22:=Tryz.zeroValue51
 t23:=Tryz.underlying51
 a23:=Tryz.isAgg51
 z23:=Tryz.sizeOf51
 v23:=Tryz.zeroValue51
 t25:=Tryz.underlying3
 a25:=Tryz.isAgg3
 z25:=Tryz.sizeOf3
 v25:=Tryz.zeroValue3
 t32:=Tryz.underlying141
 a32:=Tryz.isAgg141
 z32:=Tryz.sizeOf141
 v32:=Tryz.zeroValue141
 t35:=Tryz.underlying157
 a35:=Tryz.isAgg157
 z35:=Tryz.sizeOf157
 v35:=Tryz.zeroValue157
 t36:=Tryz.underlying158
 a36:=Tryz.isAgg158
 z36:=Tryz.sizeOf158
 v36:=Tryz.zeroValue158
 t41:=Tryz.underlying112
 a41:=Tryz.isAgg112
 z41:=Tryz.sizeOf112
 v41:=Tryz.zeroValue112
 t44:=Tryz.underlying164
 a44:=Tryz.isAgg164
 z44:=Tryz.sizeOf164
 v44:=Tryz.zeroValue164
 t46:=Tryz.underlying166
 a46:=Tryz.isAgg166
 z46:=Tryz.sizeOf166
 v46:=Tryz.zeroValue166
 t53:=Tryz.underlying177
 a53:=Tryz.isAgg177
 z53:=Tryz.sizeOf177
 v53:=Tryz.zeroValue177
 t57:=Tryz.underlying90
 a57:=Tryz.isAgg90
 z57:=Tryz.sizeOf90
 v57:=Tryz.zeroValue90
 t63:=Tryz.underlying190
 a63:=Tryz.isAgg190
 z63:=Tryz.sizeOf190
 v63:=Tryz.zeroValue190
 t64:=Tryz.underlying92
 a64:=Tryz.isAgg92
 z64:=Tryz.sizeOf92
 v64:=Tryz.zeroValue92
theorem QX (s sub:ByteArray) (m:Int) (w:World) (aS:s.size<4294967281) (hm:w.cell? ⟨0,0,none⟩=some (.int .i64 m)):
 Calls Tryz.prog 159 #[.string s,.string sub] w fun e an=>e=.returned (.bool (Lib.contains s.data.toList sub.data.toList))/\an=w:=Any.strings_Contains Tryz.ajk s sub m w aS hm
end
section
open Go.RowKit Go.Maps Go.Sort Go.Shelf
theorem anh (m:Nat):AnyZI.SortsIn Tryz.prog Tryz.WJ Fence.wide m:=
 ⟨fun aN off cap fN W lf kp cq=>callsIn_wide.2 (AnyM.slices_Sort_int Tryz.WH aN off cap fN W lf kp cq),
  fun p cap W=>callsIn_wide.2 (AnyM.slices_Sort_int_none Tryz.WH p cap W)⟩
theorem WK:a8.OC Tryz.prog 50 78 3:=by
 intro va b bN oP R w ad0 wb hY yU ael;have afO:SeqGives Fence.wide 2 Tryz.prog 78 #[.pointer (some ⟨va,0,none⟩)] encZ (fun fN=>fN.Perm (intKeys oP)) (Maps.size oP) w:=
  AnyZI.keys_gives (ρ:=Tryz.TN) {Tryz.aie with} Fence.wide _ trivial rfl (by omega) va b bN oP w ad0 wb hY
 have IV:=AnyZI.sorted_in Tryz.ane Fence.wide 5 trivial trivial trivial trivial rfl (by omega) (anh _) (enters_of Tryz.func77 (by kernel_rfl) rfl) 78 #[.pointer (some ⟨va,0,none⟩)] trivial (enters_of Tryz.func78 (by kernel_rfl) rfl) _ _ yU ael _ afO
 change CallsIn _ _ Tryz.prog 50 _ _ _ at IV;exact callsIn_wide.1 (IV.mono fun e an q=>by obtain ⟨v,fN,rfl,dn,afK,yX,ae⟩:=q;exact ⟨v,fN,rfl,dn,afK,yX,ae⟩)
end
theorem agR:HS Tryz.prog 72:=
 ⟨fun vC o c xs sep w aa ad aJ bG di=>Go.Proofs.Any.strings_Join Tryz.TS Tryz.RE vC o c xs sep w aa ad aJ bG di,fun a c sep w=>Go.Proofs.Any.strings_Join_none Tryz.TS Tryz.RE a c sep w⟩
def ctx:Ctx:=⟨Tryz.prog,fun f=>bif Nat.beq f 159 then some I3 else bif Nat.beq f 50 then some (C5 78) else bif Nat.beq f 72 then some Lf else none,fun f=>bif Nat.beq f 153 then some FW else none⟩
theorem follows:ctx.P.follows .mixedOrders=true:=by kernel_rfl
theorem Cy:eO ctx.P:=by
 intro f fn az;have ec:(Tryz.prog.funcs.toList.all fun fn=>!(fn.name == "runtime.NumGoroutine"))=true:=by kernel_rfl
 have:=List.all_eq_true.1 ec fn (Array.mem_toList_iff.2 (Array.mem_of_getElem? az));simpa using this
theorem alL:r2 ctx:=by
 refine ⟨fun f p args h v ab af he=>?_,fun f p args h v ab af he ay E w xs ak s=>?_⟩
 . simp only [ctx,im] at af;by_cases az:f=159
   . rw [if_pos az] at af;cases af;subst az;obtain ⟨s,sub,rfl,aS,rfl,rfl⟩:=abT he;refine ⟨⟨_,Tryz.func159,by kernel_rfl⟩,ai_ fun E xs w aA ak=>?_⟩;obtain ⟨y,cV,rfl,ar,z,fv,rfl,aw,rfl⟩:=ak;simp only [Rel] at ar aw;subst ar aw;obtain ⟨m,hm⟩:=aA.maxLen;refine (QX ⟨⟨s⟩⟩ ⟨⟨sub⟩⟩ m w (by show s.length<4294967281;omega) hm).mono fun e an q=>?_;obtain ⟨rfl,rfl⟩:=q;exact ⟨_,rfl,by simp only [Rel],Below.refl _ _⟩
   . rw [if_neg az] at af;by_cases az:f=50
     . rw [if_pos az] at af;cases af;subst az;exact ⟨⟨_,Tryz.func50,by kernel_rfl⟩,fun ay E w xs ak s=>WL (by decide) Tryz.underlying3 WK he ay E w xs ak s⟩
     . rw [if_neg az] at af;by_cases az:f=72
       . rw [if_pos az] at af;cases af;subst az;exact ⟨⟨_,Tryz.func72,by kernel_rfl⟩,fun ay E w xs ak s=>agQ agR he ay E w xs ak s⟩
       . rw [if_neg az] at af;cases af
 . simp only [ctx,im] at af;by_cases az:f=153
   . rw [if_pos az] at af;cases af;subst az;exact agF (P:=Tryz.prog) Tryz.func153 (by kernel_rfl) (by kernel_rfl) (by kernel_rfl) (by kernel_rfl) he ay E w xs ak s
   . rw [if_neg az] at af;cases af
end
section
open Go a8
abbrev ag (d a_:Nat):bH:=⟨some d,.b0 (.t a_),none,[a_]⟩
abbrev bu (d a_:Nat):bH:=⟨some d,.d' (.t a_),none,[a_]⟩
abbrev bS (d a_:Nat):bH:=⟨some d,.h2 (.t a_),none,[a_]⟩
abbrev c7 (d a_:Nat):bH:=⟨some d,.eH 1 (.t a_),none,[a_]⟩
abbrev dh (d a_:Nat):bH:=⟨some d,.eH 0 (.t a_),none,[a_]⟩
abbrev dR (d:Nat):bH:=⟨some d,.b0 (.c (.int .i64 0)),none,[]⟩
abbrev eg (d a_:Nat):bH:=⟨some d,.bin (.int .add) (.t a_) (.c (.int .i64 1)),none,[a_]⟩
abbrev eh (d a_:Nat):bH:=⟨some d,.len .slice (.t a_),none,[a_]⟩
abbrev en (d a_ bA:Nat):bH:=⟨some d,.b0 (.t a_),(some (bA,true)),[a_,bA]⟩
abbrev eD (d a_ bA:Nat):bH:=⟨some d,.pick (.t a_) (.t bA) (.c (.bool false)),none,[a_,bA]⟩
abbrev fp (d:Nat):bH:=⟨some d,.b0 (.c (.bool false)),none,[]⟩
abbrev fP (d a_ bA:Nat):bH:=⟨some d,.bin (.int .lss) (.t a_) (.t bA),none,[a_,bA]⟩
abbrev fQ (d a_:Nat):bH:=⟨some d,.iM 4 (.t a_),none,[a_]⟩
abbrev gz (d a_ bA:Nat):bH:=⟨some d,.d' (.t a_),(some (bA,true)),[a_,bA]⟩
abbrev gT (d a_ bA:Nat):bH:=⟨some d,.b0 (.t a_),(some (bA,false)),[a_,bA]⟩
abbrev gU (d:Nat):bH:=⟨some d,.b0 (.c .bB),none,[]⟩
abbrev hv (d a_ bA:Nat):bH:=⟨some d,.pick (.t a_) (.c (.bool true)) (.t bA),none,[a_,bA]⟩
abbrev hT (d a_:Nat):bH:=⟨some d,.eH 2 (.t a_),none,[a_]⟩
abbrev iC (d a_ bA:Nat):bH:=⟨some d,.cH 1 (.t a_) (.t bA),none,[a_,bA]⟩
abbrev jD (d a_:Nat):bH:=⟨some d,.box (.t a_),none,[a_]⟩
abbrev jE (d a_:Nat):bH:=⟨some d,.eH 3 (.t a_),none,[a_]⟩
abbrev kD (d a_:Nat):bH:=⟨some d,.ext (.t a_) 1,none,[a_]⟩
abbrev lA (d a_:Nat):bH:=⟨some d,.ext (.t a_) 0,none,[a_]⟩
abbrev mR (d:Nat):bH:=⟨some d,.new [(.int .i64 0),(.int .i64 0),(.str []),.bB],none,[]⟩
abbrev mS (d a_ bA:Nat):bH:=⟨some d,.cH 4 (.t a_) (.t bA),none,[a_,bA]⟩
abbrev mT (d a_:Nat):bH:=⟨some d,.un .not (.t a_),none,[a_]⟩
abbrev mU (d a_ bA:Nat):bH:=⟨some d,.cH 6 (.t a_) (.t bA),none,[a_,bA]⟩
abbrev nQ (d a_:Nat):bH:=⟨some d,.eH 4 (.t a_),none,[a_]⟩
abbrev nR (d a_:Nat):bH:=⟨some d,.len .str (.t a_),none,[a_]⟩
abbrev pJ (d a_ bA:Nat):bH:=⟨some d,.d' (.t a_),(some (bA,false)),[a_,bA]⟩
abbrev qJ (d a_:Nat):bH:=⟨some d,.bin (.int .eql) (.t a_) (.c (.int .i64 1)),none,[a_]⟩
abbrev rV (d a_ bA:Nat):bH:=⟨some d,.h2 (.t a_),(some (bA,true)),[a_,bA]⟩
abbrev rW (d:Nat):bH:=⟨some d,.b0 (.c (.bool true)),none,[]⟩
abbrev rX (d a_ bA:Nat):bH:=⟨some d,.eH 1 (.t a_),(some (bA,true)),[a_,bA]⟩
abbrev ts (d a_ bA:Nat):bH:=⟨some d,.cH 5 (.t a_) (.t bA),none,[a_,bA]⟩
abbrev tt (d a_ bA:Nat):bH:=⟨some d,.eH 3 (.t a_),(some (bA,true)),[a_,bA]⟩
abbrev tu (d a_ bA:Nat):bH:=⟨some d,.eH 0 (.t a_),(some (bA,true)),[a_,bA]⟩
abbrev ve (d a_:Nat):bH:=⟨some d,.il 1 4 [(.int .i64 0),(.int .i64 0),(.str []),.bB] [(0,4,(.t a_))],none,[a_]⟩
abbrev vf (d a_ bA:Nat):bH:=⟨some d,.bin (.int .neq) (.t a_) (.t bA),none,[a_,bA]⟩
abbrev vg (d a_ bA:Nat):bH:=⟨some d,.call 82 [(.t a_),(.t bA)],none,[a_,bA]⟩
abbrev vh (d a_:Nat):bH:=⟨some d,.eH 5 (.t a_),none,[a_]⟩
abbrev xR (d a_ bA eB:Nat):bH:=⟨some d,.bin (.int .eql) (.t a_) (.t bA),(some (eB,true)),[a_,bA,eB]⟩
abbrev xS (d a_ bA:Nat):bH:=⟨some d,.app 4 (.t a_) (.t bA),none,[a_,bA]⟩
abbrev xT (d a_:Nat):bH:=⟨some d,.call 53 [(.t a_)],none,[a_]⟩
abbrev xU (d a_ bA:Nat):bH:=⟨some d,.app 5 (.t a_) (.t bA),none,[a_,bA]⟩
abbrev xV (d a_ bA:Nat):bH:=⟨some d,.bin (.int .add) (.t a_) (.t bA),none,[a_,bA]⟩
abbrev xW (d a_ bA:Nat):bH:=⟨some d,.eH 2 (.t a_),(some (bA,true)),[a_,bA]⟩
abbrev xX (d a_ bA:Nat):bH:=⟨some d,.len .slice (.t a_),(some (bA,true)),[a_,bA]⟩
abbrev Au (d a_:Nat):bH:=⟨some d,.build [(.int .i64 0),(.int .i64 0),(.str []),.bB] [(0,1,(.c (.int .i64 1))),(1,1,(.t a_))],none,[a_]⟩
abbrev Av (d a_ bA:Nat):bH:=⟨some d,.iM 4 (.t a_),(some (bA,false)),[a_,bA]⟩
abbrev Aw (d:Nat):bH:=⟨some d,.b0 (.c (.int .i64 2)),none,[]⟩
abbrev Ax (d a_:Nat):bH:=⟨some d,.bin (.int .gtr) (.t a_) (.c (.int .i64 4096)),none,[a_]⟩
abbrev Ay (d a_ bA:Nat):bH:=⟨some d,.app 1 (.t a_) (.t bA),none,[a_,bA]⟩
abbrev Az (d a_ bA:Nat):bH:=⟨some d,.len .slice (.t a_),(some (bA,false)),[a_,bA]⟩
abbrev AA (d a_:Nat):bH:=⟨some d,.bin (.int .eql) (.t a_) (.c (.int .i64 0)),none,[a_]⟩
abbrev AB (d a_ bA:Nat):bH:=⟨some d,.bin (.int .geq) (.t a_) (.t bA),none,[a_,bA]⟩
abbrev AD (d:Nat):bH:=⟨some d,.new [(.int .i64 0),(.int .i64 0),(.int .i64 0),(.str [])],none,[]⟩
abbrev Dy (d a_ bA eB:Nat):bH:=⟨some d,.call 17 [(.t a_),(.t bA)],(some (eB,true)),[a_,bA,eB]⟩
abbrev Dz (d:Nat):bH:=⟨some d,.b0 (.c (.int .i64 1)),none,[]⟩
abbrev DA (d a_ bA:Nat):bH:=⟨some d,.iM 4 (.t a_),(some (bA,true)),[a_,bA]⟩
abbrev DB (d a_ bA:Nat):bH:=⟨some d,.h2 (.t a_),(some (bA,false)),[a_,bA]⟩
abbrev DC (d a_ bA:Nat):bH:=⟨some d,.eH 1 (.t a_),(some (bA,false)),[a_,bA]⟩
abbrev DD (d a_ bA:Nat):bH:=⟨some d,.bin (.int .gtr) (.t a_) (.c (.int .i64 200)),(some (bA,false)),[a_,bA]⟩
abbrev DE (d a_:Nat):bH:=⟨some d,.il 1 5 [(.int .i64 0),(.int .i64 0),(.int .i64 0),(.str []),.bB] [(0,5,(.t a_))],none,[a_]⟩
abbrev DF (d a_:Nat):bH:=⟨some d,.bin (.int .lss) (.t a_) (.c (.int .i64 0)),none,[a_]⟩
abbrev DG (d a_ bA:Nat):bH:=⟨some d,.ed [(.t a_),(.t bA)],none,[a_,bA]⟩
abbrev DH (d a_ bA:Nat):bH:=⟨some d,.bin (.int .eql) (.t a_) (.t bA),none,[a_,bA]⟩
abbrev DI (d a_:Nat):bH:=⟨some d,.bin (.int .gtr) (.t a_) (.c (.int .i64 0)),none,[a_]⟩
abbrev DJ (d a_:Nat):bH:=⟨some d,.bin (.int .geq) (.t a_) (.c (.int .i64 0)),none,[a_]⟩
abbrev DK (d a_ bA:Nat):bH:=⟨some d,.mA (.t a_) (.t bA),none,[a_,bA]⟩
abbrev DL (d a_:Nat):bH:=⟨some d,.mA (.t a_) (.c (.int .i64 0)),none,[a_]⟩
abbrev DM (d a_ bA:Nat):bH:=⟨some d,.bin (.int .eql) (.t a_) (.c (.int .u8 95)),(some (bA,false)),[a_,bA]⟩
abbrev HF (d a_ bA:Nat):bH:=⟨some d,.bin (.int .eql) (.t a_) (.c (.int .i64 0)),(some (bA,true)),[a_,bA]⟩
abbrev HG (d a_:Nat):bH:=⟨some d,.bin (.int .neq) (.t a_) (.c (.int .i64 0)),none,[a_]⟩
abbrev HH (d a_ bA:Nat):bH:=⟨some d,.rr (.int .i64 0) false (.t a_) (.t bA),none,[a_,bA]⟩
abbrev HI (d a_ bA:Nat):bH:=⟨some d,.build [(.int .i64 0),(.int .i64 0),(.int .i64 0),(.str []),.bB] [(0,1,(.t a_)),(1,4,(.t bA))],none,[a_,bA]⟩
abbrev HJ (d a_ bA eB:Nat):bH:=⟨some d,.bin (.str .eql) (.t a_) (.t bA),(some (eB,true)),[a_,bA,eB]⟩
abbrev HK (d a_:Nat):bH:=⟨some d,.bin (.int .sub) (.t a_) (.c (.int .i64 1)),none,[a_]⟩
abbrev HL (d a_ bA eB:Nat):bH:=⟨some d,.bin (.int .lss) (.t a_) (.t bA),(some (eB,true)),[a_,bA,eB]⟩
abbrev HM (d a_ bA eB:Nat):bH:=⟨some d,.pick (.t a_) (.t bA) (.c (.bool false)),(some (eB,false)),[a_,bA,eB]⟩
abbrev HN (d a_ bA:Nat):bH:=⟨some d,.sZ 1 [(.int .i64 0)] (.t a_) (.t bA),none,[a_,bA]⟩
abbrev HO (d:Nat):bH:=⟨some d,.new [(.int .i64 0),(.int .i64 0),(.str []),.bB,.bB,(.int .i64 0)],none,[]⟩
abbrev HP (d a_:Nat):bH:=⟨some d,.call 106 [(.t a_),(.c (.int .u8 97)),(.c (.int .u8 122))],none,[a_]⟩
abbrev HQ (d a_ bA:Nat):bH:=⟨some d,.rL (.t a_) (some (.t bA)) none none,none,[a_,bA]⟩
abbrev HR (d:Nat):bH:=⟨some d,.build [(.int .i64 0),(.int .i64 0),(.int .i64 0),(.str [])] [],none,[]⟩
abbrev N' (d a_:Nat):bH:=⟨some d,.build [(.int .i64 0),(.int .i64 0),(.str []),.bB] [(0,1,(.c (.int .i64 2))),(2,1,(.t a_))],none,[a_]⟩
abbrev N_ (d a_:Nat):bH:=⟨some d,.il 1 6 [(.int .i64 0),(.int .i64 0),(.str []),.bB,.bB,(.int .i64 0)] [(0,6,(.t a_))],none,[a_]⟩
abbrev Oa (d a_:Nat):bH:=⟨some d,.build [(.int .i64 0),(.int .i64 0),(.int .i64 0),(.str [])] [(0,1,(.c (.int .i64 7))),(3,1,(.t a_))],none,[a_]⟩
structure dN (f n:Nat) (fn:Func) (c:aY) (eZ:List vo):Prop where
 az:Tryz.prog.funcs[f]? =some fn
 abJ:(fn.body,fn.ntmps,Nat.ble fn.ntmps top,Nat.beq f dy,gI Tryz.prog fn.ntmps (fn.body.getD .skip),nH Tryz.prog fn.ntmps fn.results.toList,c.plain)=(some (fn.body.getD .skip),n,true,false,c,eZ,true)
theorem dN.z {f n:Nat} {fn:Func} {c:aY} {eZ:List vo} (Z:dN f n fn c eZ) {args:List V} {h:ah} {K:V->ah->Prop} (aA:Nat.ble args.length n=true) (H:gy Tryz.prog c (bc.bE args) h fun e r ab=>e.ends/\∃ai,la r ab eZ=some ai/\K (oneOf ai) ab):de Tryz.prog f args h K:=by have q:=Z.abJ;simp only [Prod.mk.injEq] at q;obtain ⟨aa,ad,aJ,bG,di,dD,j6⟩:=q;exact ab5 follows Cy Z.az aa aJ bG (by rw [ad];exact aA) di dD j6 H
def c3:aY:=
 .seq (.aq [fp 4])
 (.seq (.seq (.aq [ag 12 0,⟨some 13,.call 10 [(.t 12),(.c (.int .i64 300))],none,[12]⟩,ag 14 13,gT 15 1 14,⟨some 16,.call 10 [(.t 15),(.c (.int .i64 300))],(some (14,false)),[15,14]⟩,hv 17 14 16])
 (.cond (.t 17)
 (.seq (.aq [⟨some 18,.call 11 [],none,[]⟩,ag 4 18])
 (.ret))
 (.skip)))
 (.seq (.aq [ag 19 0,⟨some 20,.call 12 [(.t 19)],none,[19]⟩,ag 21 1,⟨some 22,.call 12 [(.t 21)],none,[21]⟩,ag 5 20,ag 6 22])
 (.seq (.aq [ag 24 5,ag 25 6,⟨some 26,.call 13 [(.t 24),(.t 25)],none,[24,25]⟩,ag 23 26,lA 27 23,kD 28 23,ag 7 27,ag 8 28])
 (.seq (.aq [ag 30 0,ag 31 1,⟨some 32,.call 14 [(.t 30),(.t 31)],none,[30,31]⟩,ag 29 32,lA 33 29,kD 34 29,ag 9 33,ag 10 34])
 (.seq (.aq [ag 35 7,ag 36 9,⟨some 37,.call 15 [(.t 35),(.t 36)],none,[35,36]⟩,ag 38 37,en 39 8 38,en 40 10 38,xR 41 39 40 38,eD 42 38 41,ag 11 42])
 (.seq (.aq [ag 43 7,⟨some 44,.call 16 [(.t 43)],none,[43]⟩])
 (.seq (.aq [ag 45 11,ag 46 45,en 47 5 46,en 48 0 46,Dy 49 47 48 46,eD 50 46 49,ag 51 50,en 52 6 51,en 53 1 51,Dy 54 52 53 51,eD 55 51 54,ag 56 55,⟨some 57,.call 11 [],(some (56,true)),[56]⟩,eD 58 56 57,ag 4 58])
 (.ret))))))))
def Qd:aY:=
 .seq (.seq (.aq [ag 19 7,ag 20 0,fP 21 19 20])
 (.cond (.t 21)
 (.skip)
 (.exit 0)))
 (.seq (.block 1 (.seq (.aq [ag 24 7,eg 25 24,Au 26 25,mR 8,⟨none,.st 4 (.t 8) (.t 26),none,[8,26]⟩])
 (.seq (.aq [ag 27 5,ag 28 7,Au 29 28,ve 30 29,xS 31 27 30,ag 5 31])
 (.aq [ag 32 6,fQ 33 8,fQ 34 8,⟨some 35,.il 2 4 [(.int .i64 0),(.int .i64 0),(.str []),.bB] [(0,4,(.t 33)),(4,4,(.t 34))],none,[33,34]⟩,⟨some 36,.build [(.int .i64 0),(.int .i64 0),(.str []),.bB] [(0,1,(.c (.int .i64 2))),(2,1,(.c (.str [42]))),(3,1,(.t 35))],none,[35]⟩,ve 37 36,xS 38 32 37,ag 6 38]))))
 (.aq [ag 22 7,eg 23 22,ag 7 23]))
def Qe:aY:=
 .seq (.seq (.aq [ag 41 10,ag 42 1,fP 43 41 42])
 (.cond (.t 43)
 (.skip)
 (.exit 2)))
 (.seq (.block 3 (.aq [fQ 46 9,ve 47 46,⟨some 48,.build [(.int .i64 0),(.int .i64 0),(.str []),.bB] [(0,1,(.c (.int .i64 2))),(2,1,(.c (.str [114,101,102]))),(3,1,(.t 47))],none,[47]⟩,⟨none,.st 4 (.t 9) (.t 48),none,[9,48]⟩]))
 (.aq [ag 44 10,eg 45 44,ag 10 45]))
def eF:aY:=
 .seq (.aq [fp 4])
 (.seq (.aq [ag 15 0,⟨some 16,.call 18 [(.t 15),(.c (.int .i64 15))],none,[15]⟩,ag 17 1,⟨some 18,.call 18 [(.t 17),(.c (.int .i64 206))],none,[17]⟩,ag 0 16,ag 1 18])
 (.seq (.aq [gU 5,gU 6])
 (.seq (.seq (.aq [dR 7])
 (.block 0 (.loop Qd)))
 (.seq (.aq [ag 39 0,Au 40 39,mR 9,⟨none,.st 4 (.t 9) (.t 40),none,[9,40]⟩])
 (.seq (.seq (.aq [Dz 10])
 (.block 2 (.loop Qe)))
 (.seq (.aq [ag 50 5,ag 51 6,⟨some 52,.call 13 [(.t 50),(.t 51)],none,[50,51]⟩,ag 49 52,lA 53 49,kD 54 49,ag 11 53,ag 12 54])
 (.seq (.aq [ag 56 5,ag 57 6,⟨some 58,.call 14 [(.t 56),(.t 57)],none,[56,57]⟩,ag 55 58,lA 59 55,kD 60 55,ag 13 59,ag 14 60])
 (.seq (.draw [ag 61 11,ag 62 13,⟨some 63,.call 15 [(.t 61),(.t 62)],none,[61,62]⟩,ag 64 63,en 65 12 64,en 66 14 64,xR 67 65 66 64,eD 68 64 67,ag 69 68,DA 70 9 69,DA 72 9 69,⟨some 71,.call 19 [(.t 70)],(some (69,true)),[70,69]⟩,⟨some 73,.call 20 [(.t 72)],(some (69,true)),[72,69]⟩,xR 74 71 73 69,eD 75 69 74,ag 76 75,DA 77 9 76,en 80 1 76,⟨some 81,.bin (.int .leq) (.t 80) (.c (.int .i64 200)),(some (76,true)),[80,76]⟩,⟨some 78,.call 19 [(.t 77)],(some (76,true)),[77,76]⟩,HF 79 78 76,⟨some 82,.bin (.yq false) (.t 79) (.t 81),(some (76,true)),[79,81,76]⟩,eD 83 76 82,ag 84 83,⟨some 85,.call 11 [],(some (84,true)),[84]⟩,eD 86 84 85,ag 4 86] [(9,[11]),(10,[11,12]),(16,[19])])
 (.ret)))))))))
theorem aaX:dN 4 87 Tryz.f4 eF [.t 4]:=⟨Tryz.func4,by kernel_rfl⟩
def c5:aY:=
 .seq (.aq [jD 3 1,fp 4])
 (.seq (.seq (.aq [ag 12 0,⟨some 13,.call 21 [(.t 12),(.c (.int .i64 300))],none,[12]⟩,ag 14 13,Av 15 3 14,⟨some 16,.il 1 4 [(.int .i64 0),(.int .i64 0),(.str []),.bB] [(0,4,(.t 15))],(some (14,false)),[15,14]⟩,⟨some 17,.call 10 [(.t 16),(.c (.int .i64 300))],(some (14,false)),[16,14]⟩,hv 18 14 17])
 (.cond (.t 18)
 (.seq (.aq [⟨some 19,.call 11 [],none,[]⟩,ag 4 19])
 (.ret))
 (.skip)))
 (.seq (.aq [fQ 20 3,ve 21 20,⟨some 22,.call 12 [(.t 21)],none,[21]⟩,ag 23 0,⟨some 24,.call 22 [(.t 23)],none,[23]⟩,ag 5 22,ag 6 24])
 (.seq (.aq [ag 26 6,ag 27 5,⟨some 28,.cH 4 (.t 27) (.c (.int .i64 0)),none,[27]⟩,fQ 29 28,⟨some 30,.call 23 [(.t 26),(.t 29)],none,[26,29]⟩,ag 25 30,lA 31 25,kD 32 25,mR 7,⟨none,.st 4 (.t 7) (.t 31),none,[7,31]⟩,ag 8 32])
 (.seq (.aq [ag 34 0,fQ 35 3,⟨some 36,.call 24 [(.t 34),(.t 35)],none,[34,35]⟩,ag 33 36,lA 37 33,kD 38 33,mR 9,⟨none,.st 4 (.t 9) (.t 37),none,[9,37]⟩,ag 10 38])
 (.seq (.aq [fQ 39 7,fQ 40 9,⟨some 41,.call 25 [(.t 39),(.t 40)],none,[39,40]⟩,ag 42 41,en 43 8 42,en 44 10 42,xR 45 43 44 42,eD 46 42 45,ag 11 46])
 (.seq (.aq [fQ 47 7,ve 48 47,⟨some 49,.call 26 [(.t 48)],none,[48]⟩])
 (.seq (.aq [ag 50 11,ag 51 50,en 52 5 51,DA 53 3 51,⟨some 54,.il 1 4 [(.int .i64 0),(.int .i64 0),(.str []),.bB] [(0,4,(.t 53))],(some (51,true)),[53,51]⟩,Dy 55 52 54 51,eD 56 51 55,ag 57 56,en 58 6 57,en 59 0 57,⟨some 60,.call 15 [(.t 58),(.t 59)],(some (57,true)),[58,59,57]⟩,eD 61 57 60,ag 62 61,⟨some 63,.call 11 [],(some (62,true)),[62]⟩,eD 64 62 63,ag 4 64])
 (.ret))))))))
def Ix:aY:=
 .seq (.aq [fP 29 28 27])
 (.seq (.cond (.t 29)
 (.skip)
 (.exit 0))
 (.seq (.block 1 (.seq (.aq [mS 30 26 28,fQ 31 30,mR 7,⟨none,.st 4 (.t 7) (.t 31),none,[7,31]⟩])
 (.seq (.aq [fQ 32 7,⟨some 33,.call 19 [(.t 32)],none,[32]⟩,HG 34 33])
 (.cond (.t 34)
 (.seq (.aq [gU 4,Aw 5])
 (.ret))
 (.skip)))))
 (.aq [eg 35 28,ag 28 35])))
def Iy:aY:=
 .seq (.aq [fP 40 39 38])
 (.seq (.cond (.t 40)
 (.skip)
 (.exit 2))
 (.seq (.block 3 (.seq (.aq [ag 41 39,ag 9 41])
 (.seq (.draw [ag 42 8,ag 43 0,ag 44 9,mS 45 43 44,fQ 46 45,ag 48 8,ag 49 1,ag 50 9,mS 51 49 50,fQ 52 51,⟨some 47,.call 49 [(.t 42),(.t 46)],none,[42,46]⟩,⟨some 53,.call 49 [(.t 48),(.t 52)],none,[48,52]⟩,⟨some 54,.call 48 [(.t 47),(.t 53)],none,[47,53]⟩,mT 55 54] [(4,[10]),(9,[10,11])])
 (.cond (.t 55)
 (.seq (.aq [gU 4,⟨some 5,.b0 (.c (.int .i64 290)),none,[]⟩])
 (.ret))
 (.skip)))))
 (.aq [eg 56 39,ag 39 56])))
def Iz:aY:=
 .seq (.aq [fP 68 67 66])
 (.seq (.cond (.t 68)
 (.skip)
 (.exit 4))
 (.seq (.block 5 (.seq (.aq [iC 69 65 67,bu 70 69,ag 13 70])
 (.seq (.aq [ag 71 10,ag 72 8,ag 73 13,⟨some 74,.look .int .ee false (.t 72) (.t 73),none,[72,73]⟩,⟨some 75,.call 52 [(.t 71),(.t 74)],none,[71,74]⟩,mT 76 75])
 (.cond (.t 76)
 (.seq (.aq [gU 4,⟨some 5,.b0 (.c (.int .i64 291)),none,[]⟩])
 (.ret))
 (.skip)))))
 (.aq [eg 77 67,ag 67 77])))
def IA:aY:=
 .seq (.aq [fP 81 80 79])
 (.seq (.cond (.t 81)
 (.skip)
 (.exit 6))
 (.seq (.block 7 (.seq (.aq [iC 82 78 80,bu 83 82,ag 16 83])
 (.seq (.aq [ag 84 8,ag 85 16,⟨some 86,.look .int .ee false (.t 84) (.t 85),none,[84,85]⟩,xT 87 86,ag 17 87])
 (.seq (.block 8 (.seq (.aq [ag 89 17,bS 90 89,c7 91 90,bu 92 91,mT 93 92,ag 94 93,en 95 17 94,rV 96 95 94,⟨some 97,.eH 4 (.t 96),(some (94,true)),[96,94]⟩,gz 98 97 94,en 99 16 94,xR 100 98 99 94,eD 101 94 100,ag 88 101])
 (.cond (.t 88)
 (.exit 7)
 (.seq (.aq [ag 103 10,bS 104 103,dh 105 104,bu 106 105,ag 107 17,HH 108 106 107,Ax 109 108,ag 110 109,gT 111 10 110,DB 112 111 110,DC 113 112 110,pJ 114 113 110,gT 115 17 110,⟨some 116,.rr (.int .i64 0) false (.t 114) (.t 115),(some (110,false)),[114,115,110]⟩,DD 117 116 110,hv 118 110 117,ag 102 118])
 (.cond (.t 102)
 (.seq (.aq [gU 4,⟨some 5,.b0 (.c (.int .i64 3)),none,[]⟩])
 (.ret))
 (.skip))))))
 (.aq [ag 119 14,ag 120 16,ag 121 17,⟨some 122,.call 54 [(.t 121)],none,[121]⟩,HI 123 120 122,DE 124 123,xU 125 119 124,ag 14 125])))))
 (.aq [eg 126 80,ag 80 126])))
def PM:aY:=
 .seq (.aq [gU 4,dR 5])
 (.seq (.seq (.aq [ag 18 0,eh 19 18,ag 20 1,eh 21 20,vf 22 19 21])
 (.cond (.t 22)
 (.seq (.aq [gU 4,Aw 5])
 (.ret))
 (.skip)))
 (.seq (.seq (.aq [ag 23 0,ag 24 1,⟨some 25,.il 2 1 [.bB] [(0,1,(.t 23)),(1,1,(.t 24))],none,[23,24]⟩,⟨some 26,.call 47 [(.t 25)],none,[25]⟩,eh 27 26,dR 28])
 (.block 0 (.loop Ix)))
 (.seq (.aq [⟨some 36,.nC none,none,[]⟩,ag 8 36])
 (.seq (.seq (.aq [ag 37 0,eh 38 37,dR 39])
 (.block 2 (.loop Iy)))
 (.seq (.aq [⟨some 57,.nC none,none,[]⟩,⟨some 58,.nC none,none,[]⟩,⟨some 59,.nC none,none,[]⟩,⟨some 60,.build [.jX,.jX,.jX] [(0,1,(.t 57)),(1,1,(.t 58)),(2,1,(.t 59))],none,[57,58,59]⟩,jD 61 60,ag 10 61])
 (.seq (.aq [ag 62 8,⟨some 63,.call 51 [(.t 62)],none,[62]⟩,⟨some 64,.call 50 [(.t 63)],none,[63]⟩,ag 11 64])
 (.seq (.seq (.aq [ag 65 11,eh 66 65,dR 67])
 (.block 4 (.loop Iz)))
 (.seq (.aq [gU 14])
 (.seq (.seq (.aq [ag 78 11,eh 79 78,dR 80])
 (.block 6 (.loop IA)))
 (.seq (.aq [ag 127 14,ag 4 127,dR 5])
 (.ret)))))))))))
theorem aat:dN 13 128 Tryz.f13 PM [.t 4,.t 5]:=⟨Tryz.func13,by kernel_rfl⟩
def PY:aY:=
 .seq (.seq (.aq [ag 12 6,ag 13 0,eh 14 13,fP 15 12 14])
 (.cond (.t 15)
 (.skip)
 (.exit 0)))
 (.seq (.block 1 (.seq (.aq [ag 18 0,ag 19 6,mS 20 18 19,fQ 21 20,⟨some 22,.call 20 [(.t 21)],none,[21]⟩,HG 23 22,ag 24 23,gT 25 1 24,gT 26 6 24,⟨some 27,.cH 4 (.t 25) (.t 26),(some (24,false)),[25,26,24]⟩,Av 28 27 24,⟨some 29,.call 20 [(.t 28)],(some (24,false)),[28,24]⟩,⟨some 30,.bin (.int .neq) (.t 29) (.c (.int .i64 0)),(some (24,false)),[29,24]⟩,hv 31 24 30])
 (.cond (.t 31)
 (.seq (.aq [gU 4,Aw 5])
 (.ret))
 (.skip))))
 (.aq [ag 16 6,eg 17 16,ag 6 17]))
def PO:aY:=
 .seq (.aq [gU 4,dR 5])
 (.seq (.seq (.aq [ag 7 0,eh 8 7,ag 9 1,eh 10 9,vf 11 8 10])
 (.cond (.t 11)
 (.seq (.aq [gU 4,Aw 5])
 (.ret))
 (.skip)))
 (.seq (.seq (.aq [dR 6])
 (.block 0 (.loop PY)))
 (.seq (.aq [ag 32 0,ag 33 1,⟨some 34,.call 55 [(.t 32),(.t 33)],none,[32,33]⟩,lA 35 34,kD 36 34,ag 4 35,ag 5 36])
 (.ret))))
theorem aaC:dN 14 37 Tryz.f14 PO [.t 4,.t 5]:=⟨Tryz.func14,by kernel_rfl⟩
def P5:aY:=
 .seq (.seq (.aq [ag 11 5,ag 12 0,eh 13 12,fP 14 11 13])
 (.cond (.t 14)
 (.skip)
 (.exit 0)))
 (.seq (.block 1 (.seq (.draw [ag 17 0,ag 18 5,ts 19 17 18,dh 20 19,bu 21 20,ag 22 1,ag 23 5,ts 24 22 23,dh 25 24,bu 26 25,vf 27 21 26,ag 28 27,gT 29 0 28,gT 30 5 28,⟨some 31,.cH 5 (.t 29) (.t 30),(some (28,false)),[29,30,28]⟩,DC 32 31 28,Av 33 32 28,gT 34 1 28,gT 35 5 28,⟨some 36,.cH 5 (.t 34) (.t 35),(some (28,false)),[34,35,28]⟩,DC 37 36 28,Av 38 37 28,⟨some 39,.call 25 [(.t 33),(.t 38)],(some (28,false)),[33,38,28]⟩,⟨some 40,.un .not (.t 39),(some (28,false)),[39,28]⟩,hv 41 28 40] [(4,[22]),(9,[22]),(16,[22]),(21,[22])])
 (.cond (.t 41)
 (.seq (.aq [fp 4])
 (.ret))
 (.skip))))
 (.aq [ag 15 5,eg 16 15,ag 5 16]))
def PZ:aY:=
 .seq (.aq [fp 4])
 (.seq (.seq (.aq [ag 6 0,eh 7 6,ag 8 1,eh 9 8,vf 10 7 9])
 (.cond (.t 10)
 (.seq (.aq [fp 4])
 (.ret))
 (.skip)))
 (.seq (.seq (.aq [dR 5])
 (.block 0 (.loop P5)))
 (.seq (.aq [rW 4])
 (.ret))))
theorem aaH:dN 15 42 Tryz.f15 PZ [.t 4]:=⟨Tryz.func15,by kernel_rfl⟩
def P6:aY:=
 .seq (.seq (.aq [ag 11 5,ag 12 0,eh 13 12,fP 14 11 13])
 (.cond (.t 14)
 (.skip)
 (.exit 0)))
 (.seq (.block 1 (.seq (.draw [ag 17 0,ag 18 5,mS 19 17 18,fQ 20 19,ag 21 1,ag 22 5,mS 23 21 22,fQ 24 23,⟨some 25,.call 25 [(.t 20),(.t 24)],none,[20,24]⟩,mT 26 25] [(3,[8]),(7,[8])])
 (.cond (.t 26)
 (.seq (.aq [fp 4])
 (.ret))
 (.skip))))
 (.aq [ag 15 5,eg 16 15,ag 5 16]))
def tJ:aY:=
 .seq (.aq [fp 4])
 (.seq (.seq (.aq [ag 6 0,eh 7 6,ag 8 1,eh 9 8,vf 10 7 9])
 (.cond (.t 10)
 (.seq (.aq [fp 4])
 (.ret))
 (.skip)))
 (.seq (.seq (.aq [dR 5])
 (.block 0 (.loop P6)))
 (.seq (.aq [rW 4])
 (.ret))))
theorem aaI:dN 17 27 Tryz.f17 tJ [.t 4]:=⟨Tryz.func17,by kernel_rfl⟩
def P7:aY:=
 .seq (.aq [dR 4])
 (.seq (.seq (.aq [ag 5 1,⟨some 6,.bin (.int .lss) (.t 5) (.c (.int .i64 1)),none,[5]⟩])
 (.cond (.t 6)
 (.seq (.aq [dR 4])
 (.ret))
 (.skip)))
 (.seq (.aq [ag 7 0,ag 8 1,⟨some 9,.bin (.int .rem) (.t 7) (.t 8),none,[7,8]⟩,ag 0 9])
 (.seq (.seq (.aq [ag 10 0,DF 11 10])
 (.cond (.t 11)
 (.aq [ag 12 0,ag 13 1,xV 14 12 13,ag 0 14])
 (.skip)))
 (.seq (.aq [ag 15 0,ag 4 15])
 (.ret)))))
theorem aaJ:dN 18 16 Tryz.f18 P7 [.t 4]:=⟨Tryz.func18,by kernel_rfl⟩
def IE:aY:=
 .seq (.aq [ag 5 9])
 (.aq [mR 6,⟨none,.st 4 (.t 6) (.t 10),none,[6,10]⟩])
def IF:aY:=
 .block 1 (.seq (.seq (.aq [fQ 11 6,⟨some 12,.call 57 [(.t 11)],none,[11]⟩,mT 13 12])
 (.cond (.t 13)
 (.seq (.aq [⟨none,.st 1 (.t 2) (.c (.int .i64 2)),none,[2]⟩])
 (.ret))
 (.skip)))
 (.seq (.aq [bu 14 3,eg 15 14,⟨none,.st 1 (.t 3) (.t 15),none,[3,15]⟩])
 (.aq [bu 16 4,ag 17 5,DG 18 16 17,⟨none,.st 1 (.t 4) (.t 18),none,[4,18]⟩])))
def ID:aY:=
 .seq (.aq [jD 1 0,⟨some 2,.new [(.int .i64 0)],none,[]⟩])
 (.seq (.aq [⟨some 3,.new [(.int .i64 0)],none,[]⟩,⟨some 4,.new [(.int .i64 0)],none,[]⟩,⟨none,.st 1 (.t 3) (.c (.int .i64 0)),none,[3]⟩,⟨none,.st 1 (.t 4) (.c (.int .i64 0)),none,[4]⟩])
 (.seq (.seq (.aq [fQ 7 1,⟨some 8,.call 56 [(.t 7)],none,[7]⟩])
 (.block 0 (aY.range (.t 8) [9,10] 25 IE IF)))
 (.seq (.seq (.aq [bu 19 3,Ax 20 19,ag 21 20,pJ 22 4 21,DD 23 22 21,hv 24 21 23])
 (.cond (.t 24)
 (.seq (.aq [⟨none,.st 1 (.t 2) (.c (.int .i64 3)),none,[2]⟩])
 (.ret))
 (.skip)))
 (.seq (.aq [⟨none,.st 1 (.t 2) (.c (.int .i64 0)),none,[2]⟩])
 (.ret)))))
theorem aaL:gI Tryz.prog Tryz.f19.ntmps (Tryz.f19.body.getD .skip)=ID:=by kernel_rfl
theorem aaM:nH Tryz.prog Tryz.f19.ntmps Tryz.f19.results.toList=[.bP 2]:=by kernel_rfl
theorem aaK {args:List V} {h:ah} {K:V->ah->Prop} (aA:Nat.ble args.length 25=true) (H:gy Tryz.prog ID (bc.bE args) h fun e r ab=>e.ends/\∃ad,qk (r eN).list ab=some ad/\∃ai,la r ad [.bP 2]=some ai/\K (oneOf ai) ad):de Tryz.prog 19 args h K:=
 ab6 follows Cy Tryz.func19 (c:=Tryz.f19.body.getD .skip) (by kernel_rfl) (by kernel_rfl) (by kernel_rfl) aA aaL aaM H
def P8:aY:=
 .seq (.aq [jD 1 0,dR 2])
 (.seq (.seq (.aq [fQ 3 1,⟨some 4,.call 58 [(.t 3)],none,[3]⟩,mT 5 4])
 (.cond (.t 5)
 (.seq (.aq [Aw 2])
 (.ret))
 (.skip)))
 (.seq (.seq (.aq [fQ 6 1,⟨some 7,.call 31 [(.t 6)],none,[6]⟩,Ax 8 7,ag 9 8,Av 10 1 9,⟨some 11,.call 59 [(.t 10)],(some (9,false)),[10,9]⟩,DD 12 11 9,hv 13 9 12])
 (.cond (.t 13)
 (.seq (.aq [⟨some 2,.b0 (.c (.int .i64 3)),none,[]⟩])
 (.ret))
 (.skip)))
 (.seq (.aq [dR 2])
 (.ret))))
theorem aaO:dN 20 14 Tryz.f20 P8 [.t 2]:=⟨Tryz.func20,by kernel_rfl⟩
def P9:aY:=
 .seq (.aq [jD 2 0,jD 3 1,fp 4])
 (.seq (.aq [dh 5 2,bu 6 5,dh 7 3,bu 8 7,DH 9 6 8,ag 10 9,rX 11 2 10,gz 12 11 10,rX 13 3 10,gz 14 13 10,xR 15 12 14 10,eD 16 10 15,ag 17 16,xW 18 2 17,gz 19 18 17,xW 20 3 17,gz 21 20 17,HJ 22 19 21 17,eD 23 17 22,ag 24 23,tt 25 2 24,gz 26 25 24,tt 27 3 24,gz 28 27 24,Dy 29 26 28 24,eD 30 24 29,ag 4 30])
 (.ret))
theorem aaP:dN 25 31 Tryz.f25 P9 [.t 4]:=⟨Tryz.func25,by kernel_rfl⟩
def P_:aY:=
 .seq (.seq (.aq [ag 5 4,jE 6 1,bu 7 6,eh 8 7,fP 9 5 8])
 (.cond (.t 9)
 (.skip)
 (.exit 0)))
 (.seq (.block 1 (.aq [ag 12 3,jE 13 1,bu 14 13,ag 15 4,mS 16 14 15,fQ 17 16,⟨some 18,.call 31 [(.t 17)],none,[17]⟩,xV 19 12 18,ag 3 19]))
 (.aq [ag 10 4,eg 11 10,ag 4 11]))
def P':aY:=
 .seq (.aq [jD 1 0,dR 2])
 (.seq (.aq [Dz 3])
 (.seq (.seq (.aq [dR 4])
 (.block 0 (.loop P_)))
 (.seq (.aq [ag 20 3,ag 2 20])
 (.ret))))
theorem aaQ:dN 31 21 Tryz.f31 P' [.t 2]:=⟨Tryz.func31,by kernel_rfl⟩
def aaR:aY:=
 .aq [mR 6,⟨none,.st 4 (.t 6) (.t 11),none,[6,11]⟩]
def aaS:aY:=
 .block 1 (.seq (.aq [dh 12 6,bu 13 12,qJ 14 13,ag 15 14,gz 16 4 15,rX 17 6 15,gz 18 17 15,⟨some 19,.look .int (.bool false) false (.t 16) (.t 18),(some (15,true)),[16,18,15]⟩,⟨some 20,.un .not (.t 19),(some (15,true)),[19,15]⟩,eD 21 15 20])
 (.cond (.t 21)
 (.seq (.aq [bu 22 4,c7 23 6,bu 24 23,⟨none,.eU .int (.t 22) (.t 24) (.c (.bool true)),none,[22,24]⟩])
 (.aq [bu 25 3,c7 26 6,bu 27 26,⟨some 28,.il 1 1 [(.int .i64 0)] [(0,1,(.t 27))],none,[27]⟩,Ay 29 25 28,⟨none,.st 1 (.t 3) (.t 29),none,[3,29]⟩]))
 (.skip)))
def c34:aY:=
 .seq (.aq [jD 1 0,gU 2])
 (.seq (.aq [⟨some 3,.new [.bB],none,[]⟩])
 (.seq (.aq [⟨some 7,.nC none,none,[]⟩,⟨some 4,.new [.jX],none,[]⟩,⟨none,.st 1 (.t 4) (.t 7),none,[4,7]⟩])
 (.seq (.seq (.aq [fQ 8 1,⟨some 9,.call 56 [(.t 8)],none,[8]⟩])
 (.block 0 (aY.range (.t 9) [10,11] 31 aaR aaS)))
 (.seq (.aq [bu 30 3,ag 2 30])
 (.ret)))))
def IH:aY:=
 .seq (.aq [fP 76 75 74])
 (.seq (.cond (.t 76)
 (.skip)
 (.exit 2))
 (.seq (.block 3 (.seq (.aq [ag 77 75,ag 9 77])
 (.draw [ag 78 5,ag 79 7,bS 80 79,jE 81 80,bu 82 81,ag 83 9,iC 84 82 83,bu 85 84,ag 86 8,bS 87 86,jE 88 87,bu 89 88,ag 90 9,iC 91 89 90,bu 92 91,⟨some 93,.build [.ee,.ee] [(0,1,(.t 85)),(1,1,(.t 92))],none,[85,92]⟩,⟨some 94,.il 1 2 [.ee,.ee] [(0,2,(.t 93))],none,[93]⟩,⟨some 95,.app 2 (.t 78) (.t 94),none,[78,94]⟩,ag 5 95] [(4,[17]),(7,[17]),(11,[17]),(14,[17])])))
 (.aq [eg 96 75,ag 75 96])))
def II:aY:=
 .seq (.seq (.aq [ag 15 5,eh 16 15,DI 17 16])
 (.cond (.t 17)
 (.skip)
 (.exit 0)))
 (.block 1 (.seq (.aq [ag 18 5,ag 19 5,eh 20 19,HK 21 20,⟨some 22,.cH 2 (.t 18) (.t 21),none,[18,21]⟩,⟨some 23,.iM 2 (.t 22),none,[22]⟩,⟨some 6,.new [.ee,.ee],none,[]⟩,⟨none,.st 2 (.t 6) (.t 23),none,[6,23]⟩])
 (.seq (.aq [ag 24 5,ag 25 5,eh 26 25,HK 27 26,⟨some 28,.fY 2 (.t 24) none (some (.t 27)) none,none,[24,27]⟩,ag 5 28])
 (.seq (.draw [⟨some 29,.lU 2 1 (.t 6) (.c (.int .i64 0)),none,[6]⟩,bu 30 29,⟨some 32,.lU 2 1 (.t 6) (.c (.int .i64 1)),none,[6]⟩,bu 33 32,xT 31 30,xT 34 33,ag 7 31,ag 8 34] [(1,[4]),(3,[4,5])])
 (.seq (.seq (.aq [ag 35 7,ag 36 8,⟨some 37,.peq false (.t 35) (.t 36),none,[35,36]⟩])
 (.cond (.t 37)
 (.exit 1)
 (.skip)))
 (.seq (.seq (.aq [ag 38 7,bS 39 38,c7 40 39,bu 41 40,ag 42 41,en 43 8 42,rV 44 43 42,rX 45 44 42,gz 46 45 42,eD 47 42 46])
 (.cond (.t 47)
 (.seq (.seq (.draw [ag 48 7,bS 49 48,hT 50 49,bu 51 50,ag 52 8,bS 53 52,hT 54 53,bu 55 54,⟨some 56,.bin (.str .neq) (.t 51) (.t 55),none,[51,55]⟩,ag 57 56,gT 58 7 57,DB 59 58 57,⟨some 60,.eH 3 (.t 59),(some (57,false)),[59,57]⟩,pJ 61 60 57,Az 62 61 57,gT 63 8 57,DB 64 63 57,⟨some 65,.eH 3 (.t 64),(some (57,false)),[64,57]⟩,pJ 66 65 57,Az 67 66 57,⟨some 68,.bin (.int .neq) (.t 62) (.t 67),(some (57,false)),[62,67,57]⟩,hv 69 57 68] [])
 (.cond (.t 69)
 (.seq (.aq [fp 4])
 (.ret))
 (.skip)))
 (.seq (.aq [ag 70 7,bS 71 70,jE 72 71,bu 73 72,eh 74 73,dR 75])
 (.block 2 (.loop IH))))
 (.skip)))
 (.seq (.seq (.aq [ag 97 8,bS 98 97,c7 99 98,bu 100 99,mT 101 100])
 (.cond (.t 101)
 (.aq [ag 102 8,ag 103 7,ag 7 102,ag 8 103])
 (.skip)))
 (.seq (.aq [ag 104 8,bS 105 104,nQ 106 105,bu 107 106,ag 10 107])
 (.seq (.seq (.aq [ag 108 10,DF 109 108,ag 110 109,gT 111 7 110,DB 112 111 110,⟨some 113,.eH 4 (.t 112),(some (110,false)),[112,110]⟩,pJ 114 113 110,⟨some 115,.bin (.int .geq) (.t 114) (.c (.int .i64 0)),(some (110,false)),[114,110]⟩,gT 116 115 110,en 117 7 116,rV 118 117 116,⟨some 119,.eH 4 (.t 118),(some (116,true)),[118,116]⟩,gz 120 119 116,en 121 10 116,HL 122 120 121 116,HM 123 116 122 110,hv 124 110 123])
 (.cond (.t 124)
 (.aq [ag 125 7,bS 126 125,nQ 127 126,bu 128 127,ag 10 128])
 (.skip)))
 (.aq [ag 129 7,ag 130 8,ag 131 8,ag 132 10,bS 133 129,dh 134 133,⟨none,.st 1 (.t 134) (.t 131),none,[134,131]⟩,bS 135 130,nQ 136 135,⟨none,.st 1 (.t 136) (.t 132),none,[136,132]⟩]))))))))))
def Qb:aY:=
 .seq (.aq [fp 4])
 (.seq (.aq [ag 11 0,ag 12 1,⟨some 13,.build [.ee,.ee] [(0,1,(.t 11)),(1,1,(.t 12))],none,[11,12]⟩,⟨some 14,.il 1 2 [.ee,.ee] [(0,2,(.t 13))],none,[13]⟩,ag 5 14])
 (.seq (.block 0 (.loop II))
 (.seq (.aq [rW 4])
 (.ret))))
theorem aaU:dN 48 137 Tryz.f48 Qb [.t 4]:=⟨Tryz.func48,by kernel_rfl⟩
def Qc:aY:=
 .seq (.aq [fP 39 38 37])
 (.seq (.cond (.t 39)
 (.skip)
 (.exit 0))
 (.seq (.block 1 (.seq (.aq [mS 40 36 38,fQ 41 40,mR 9,⟨none,.st 4 (.t 9) (.t 41),none,[9,41]⟩])
 (.draw [ag 42 7,ag 43 7,bS 44 43,jE 45 44,bu 46 45,ag 47 0,fQ 48 9,⟨some 49,.call 49 [(.t 47),(.t 48)],none,[47,48]⟩,⟨some 50,.il 1 1 [.ee] [(0,1,(.t 49))],none,[49]⟩,Ay 51 46 50,bS 52 42,jE 53 52,⟨none,.st 1 (.t 53) (.t 51),none,[53,51]⟩] [(4,[7,9]),(6,[7])])))
 (.aq [eg 54 38,ag 38 54])))
def c49:aY:=
 .seq (.aq [jD 3 1,⟨some 4,.b0 (.c .ee),none,[]⟩])
 (.seq (.seq (.aq [dh 10 3,bu 11 10,qJ 12 11])
 (.cond (.t 12)
 (.seq (.aq [ag 14 0,c7 15 3,bu 16 15,⟨some 17,.look .int .ee true (.t 14) (.t 16),none,[14,16]⟩,ag 13 17,lA 18 13,kD 19 13,ag 5 18,ag 6 19])
 (.seq (.seq (.aq [ag 20 6,mT 21 20])
 (.cond (.t 21)
 (.seq (.aq [c7 22 3,bu 23 22,⟨some 24,.build [.ee,(.bool false),(.str []),.bB,(.int .i64 0)] [(4,1,(.t 23))],none,[23]⟩,jD 25 24,ag 5 25])
 (.aq [ag 26 0,c7 27 3,bu 28 27,ag 29 5,⟨none,.eU .int (.t 26) (.t 28) (.t 29),none,[26,28,29]⟩]))
 (.skip)))
 (.seq (.aq [ag 30 5,ag 4 30])
 (.ret))))
 (.skip)))
 (.seq (.aq [hT 31 3,bu 32 31,⟨some 33,.build [.ee,(.bool false),(.str []),.bB,(.int .i64 0)] [(1,1,(.c (.bool true))),(2,1,(.t 32)),(4,1,(.c (.int .i64 (-1))))],none,[32]⟩,jD 34 33,ag 7 34])
 (.seq (.seq (.aq [jE 35 3,bu 36 35,eh 37 36,dR 38])
 (.block 0 (.loop Qc)))
 (.seq (.aq [ag 55 7,ag 4 55])
 (.ret)))))
theorem aaW:dN 49 56 Tryz.f49 c49 [.t 4]:=⟨Tryz.func49,by kernel_rfl⟩
def c51:aY:=
 .seq (.aq [jD 1 0,⟨some 2,.b0 (.c .mH),none,[]⟩])
 (.seq (.aq [⟨some 3,.fn 78 [(.t 1)],none,[1]⟩,ag 2 3])
 (.ret))
theorem aaY:dN 51 4 Tryz.f51 c51 [.t 2]:=⟨Tryz.func51,by kernel_rfl⟩
def Qg:aY:=
 .seq (.aq [fP 40 39 38])
 (.seq (.cond (.t 40)
 (.skip)
 (.exit 0))
 (.seq (.block 1 (.seq (.aq [iC 41 37 39,bu 42 41,ag 10 42])
 (.seq (.seq (.aq [ag 43 0,ag 44 10,⟨some 45,.call 52 [(.t 43),(.t 44)],none,[43,44]⟩,mT 46 45])
 (.cond (.t 46)
 (.seq (.aq [fp 4])
 (.ret))
 (.skip)))
 (.seq (.aq [ag 47 10,xT 48 47,ag 10 48])
 (.seq (.aq [ag 49 7,ag 50 0,bS 51 50,dh 52 51,bu 53 52,ag 54 10,HH 55 53 54,xV 56 49 55,⟨some 57,.uC [(.t 56),(.c (.int .i64 4097))],none,[56]⟩,ag 7 57])
 (.aq [ag 58 8,ag 59 0,bS 60 59,c7 61 60,bu 62 61,ag 63 10,HH 64 62 63,DG 65 58 64,ag 8 65]))))))
 (.aq [eg 66 39,ag 39 66])))
def Qf:aY:=
 .seq (.aq [fp 4])
 (.seq (.aq [ag 11 1,xT 12 11,ag 1 12])
 (.seq (.seq (.aq [ag 14 0,bS 15 14,dh 16 15,bu 17 16,ag 18 1,⟨some 19,.rr (.int .i64 0) true (.t 17) (.t 18),none,[17,18]⟩,ag 13 19,lA 20 13,kD 21 13,ag 5 20,ag 6 21])
 (.seq (.aq [ag 22 6])
 (.cond (.t 22)
 (.seq (.aq [rW 4])
 (.ret))
 (.skip))))
 (.seq (.seq (.aq [ag 23 0,bS 24 23,hT 25 24,bu 26 25,ag 27 1,⟨some 28,.rr (.bool false) false (.t 26) (.t 27),none,[26,27]⟩])
 (.cond (.t 28)
 (.seq (.aq [fp 4])
 (.ret))
 (.skip)))
 (.seq (.aq [ag 29 0,bS 30 29,hT 31 30,bu 32 31,ag 33 1,⟨none,.xB (.t 32) (.t 33) (.c (.bool true)),none,[32,33]⟩])
 (.seq (.aq [Dz 7,dR 8])
 (.seq (.seq (.aq [ag 34 1,bS 35 34,jE 36 35,bu 37 36,eh 38 37,dR 39])
 (.block 0 (.loop Qg)))
 (.seq (.aq [ag 67 0,bS 68 67,hT 69 68,bu 70 69,ag 71 1,⟨none,.xB (.t 70) (.t 71) (.c (.bool false)),none,[70,71]⟩])
 (.seq (.draw [ag 72 0,bS 73 72,dh 74 73,bu 75 74,ag 76 1,ag 77 0,bS 78 77,c7 79 78,bu 80 79,ag 81 1,ag 82 7,ag 83 8,eg 84 83,⟨some 85,.w5 (.int .i64 0) (.t 75) (.t 76),none,[75,76]⟩,kD 86 85,⟨none,.vS (.t 75) (.t 86) (.t 82),none,[75,86,82]⟩,⟨some 87,.w5 (.int .i64 0) (.t 80) (.t 81),none,[80,81]⟩,kD 88 87,⟨none,.vS (.t 80) (.t 88) (.t 84),none,[80,88,84]⟩] [(3,[13]),(8,[13])])
 (.seq (.aq [rW 4])
 (.ret))))))))))
theorem aaZ:dN 52 89 Tryz.f52 Qf [.t 4]:=⟨Tryz.func52,by kernel_rfl⟩
def Qi:aY:=
 .seq (.seq (.aq [ag 5 3,bS 6 5,dh 7 6,bu 8 7,⟨some 9,.bin (.jL true 1) (.t 8) (.c .ee),none,[8]⟩])
 (.cond (.t 9)
 (.skip)
 (.exit 0)))
 (.block 1 (.aq [ag 10 3,bS 11 10,dh 12 11,bu 13 12,ag 3 13]))
def Qj:aY:=
 .seq (.seq (.aq [ag 14 0,bS 15 14,dh 16 15,bu 17 16,⟨some 18,.bin (.jL true 1) (.t 17) (.c .ee),none,[17]⟩])
 (.cond (.t 18)
 (.skip)
 (.exit 2)))
 (.block 3 (.aq [ag 19 0,ag 20 0,bS 21 20,dh 22 21,bu 23 22,ag 24 3,ag 0 23,bS 25 19,dh 26 25,⟨none,.st 1 (.t 26) (.t 24),none,[26,24]⟩]))
def Qh:aY:=
 .seq (.aq [⟨some 2,.b0 (.c .ee),none,[]⟩])
 (.seq (.aq [ag 4 0,ag 3 4])
 (.seq (.block 0 (.loop Qi))
 (.seq (.block 2 (.loop Qj))
 (.seq (.aq [ag 27 3,ag 2 27])
 (.ret)))))
theorem aa0:dN 53 28 Tryz.f53 Qh [.t 2]:=⟨Tryz.func53,by kernel_rfl⟩
def Ql:aY:=
 .seq (.aq [fP 29 28 27])
 (.seq (.cond (.t 29)
 (.skip)
 (.exit 0))
 (.seq (.block 1 (.seq (.aq [iC 30 26 28,bu 31 30,ag 5 31])
 (.draw [jE 32 3,bu 33 32,ag 34 5,⟨some 35,.call 54 [(.t 34)],none,[34]⟩,ve 36 35,xS 37 33 36,jE 38 3,⟨none,.st 1 (.t 38) (.t 37),none,[38,37]⟩] [(1,[3,5])])))
 (.aq [eg 39 28,ag 28 39])))
def Qk:aY:=
 .seq (.aq [mR 2])
 (.seq (.aq [ag 6 0,xT 7 6,ag 0 7])
 (.seq (.seq (.aq [ag 8 0,bS 9 8,c7 10 9,bu 11 10,mT 12 11])
 (.cond (.t 12)
 (.seq (.aq [ag 13 0,bS 14 13,nQ 15 14,bu 16 15,Au 17 16,⟨none,.st 4 (.t 2) (.t 17),none,[2,17]⟩])
 (.ret))
 (.skip)))
 (.seq (.aq [ag 18 0,bS 19 18,hT 20 19,bu 21 20,N' 22 21,mR 3,⟨none,.st 4 (.t 3) (.t 22),none,[3,22]⟩])
 (.seq (.seq (.aq [ag 23 0,bS 24 23,jE 25 24,bu 26 25,eh 27 26,dR 28])
 (.block 0 (.loop Ql)))
 (.seq (.aq [fQ 40 3,⟨none,.st 4 (.t 2) (.t 40),none,[2,40]⟩])
 (.ret))))))
theorem aa1:dN 54 41 Tryz.f54 Qk [.sg 2 4]:=⟨Tryz.func54,by kernel_rfl⟩
def IL:aY:=
 .seq (.seq (.aq [ag 23 7,ag 24 0,eh 25 24,fP 26 23 25])
 (.cond (.t 26)
 (.skip)
 (.exit 0)))
 (.seq (.block 1 (.seq (.aq [ag 29 6,ag 30 0,ag 31 7,mS 32 30 31,fQ 33 32,⟨some 34,.call 79 [(.t 29),(.t 33)],none,[29,33]⟩,ag 8 34])
 (.seq (.aq [ag 35 6,ag 36 1,ag 37 7,mS 38 36 37,fQ 39 38,⟨some 40,.call 79 [(.t 35),(.t 39)],none,[35,39]⟩,ag 9 40])
 (.aq [ag 41 6,ag 42 8,ag 43 9,⟨some 44,.call 80 [(.t 41),(.t 42),(.t 43)],none,[41,42,43]⟩]))))
 (.aq [ag 27 7,eg 28 27,ag 7 28]))
def IM:aY:=
 .seq (.seq (.aq [ag 55 11,ag 56 6,bS 57 56,dh 58 57,bu 59 58,eh 60 59,fP 61 55 60])
 (.cond (.t 61)
 (.skip)
 (.exit 2)))
 (.seq (.block 3 (.seq (.aq [ag 64 6,ag 65 11,ag 66 10,⟨some 67,.call 81 [(.t 64),(.t 65),(.t 66)],none,[64,65,66]⟩])
 (.cond (.t 67)
 (.seq (.aq [gU 4,⟨some 5,.b0 (.c (.int .i64 291)),none,[]⟩])
 (.ret))
 (.skip))))
 (.aq [ag 62 11,eg 63 62,ag 11 63]))
def IN:aY:=
 .seq (.seq (.aq [ag 80 15,ag 81 6,bS 82 81,c7 83 82,bu 84 83,eh 85 84,fP 86 80 85])
 (.cond (.t 86)
 (.skip)
 (.exit 4)))
 (.seq (.block 5 (.seq (.aq [ag 89 6,bS 90 89,c7 91 90,bu 92 91,ag 93 15,ts 94 92 93,c7 95 94,c7 96 95,bu 97 96,ag 16 97])
 (.seq (.seq (.aq [ag 98 6,ag 99 16,vg 100 98 99,ag 101 16,DH 102 100 101])
 (.cond (.t 102)
 (.exit 5)
 (.skip)))
 (.seq (.aq [ag 104 6,ag 105 16,ag 106 12,ag 107 13,⟨some 108,.call 83 [(.t 104),(.t 105),(.t 106),(.t 107)],none,[104,105,106,107]⟩,ag 103 108,lA 109 103,kD 110 103,ag 17 109,ag 18 110])
 (.seq (.aq [ag 111 17,Ax 112 111,ag 113 112,gT 114 18 113,DD 115 114 113,hv 116 113 115])
 (.cond (.t 116)
 (.seq (.aq [gU 4,⟨some 5,.b0 (.c (.int .i64 3)),none,[]⟩])
 (.ret))
 (.skip)))))))
 (.aq [ag 87 15,eg 88 87,ag 15 88]))
def IP:aY:=
 .seq (.seq (.aq [ag 117 19,ag 118 6,bS 119 118,c7 120 119,bu 121 120,eh 122 121,fP 123 117 122])
 (.cond (.t 123)
 (.skip)
 (.exit 6)))
 (.seq (.block 7 (.seq (.aq [ag 126 6,bS 127 126,c7 128 127,bu 129 128,ag 130 19,ts 131 129 130,c7 132 131,c7 133 132,bu 134 133,ag 20 134])
 (.seq (.aq [ag 135 6,ag 136 20,vg 137 135 136,ag 138 20,vf 139 137 138])
 (.cond (.t 139)
 (.draw [ag 140 14,ag 141 6,bS 142 141,c7 143 142,bu 144 143,ag 145 19,ts 146 144 145,dh 147 146,bu 148 147,ag 149 6,ag 150 20,⟨some 151,.call 84 [(.t 149),(.t 150)],none,[149,150]⟩,HI 152 148 151,DE 153 152,xU 154 140 153,ag 14 154] [(4,[11,14]),(8,[11,14])])
 (.skip)))))
 (.aq [ag 124 19,eg 125 124,ag 19 125]))
def Qm:aY:=
 .seq (.aq [gU 4,dR 5])
 (.seq (.aq [⟨some 21,.build [.bB,.bB,(.bool false)] [],none,[]⟩,jD 22 21,ag 6 22])
 (.seq (.seq (.aq [dR 7])
 (.block 0 (.loop IL)))
 (.seq (.seq (.aq [ag 45 6,bS 46 45,hT 47 46,bu 48 47])
 (.cond (.t 48)
 (.seq (.aq [gU 4,⟨some 5,.b0 (.c (.int .i64 290)),none,[]⟩])
 (.ret))
 (.skip)))
 (.seq (.aq [ag 49 6,bS 50 49,dh 51 50,bu 52 51,eh 53 52,HN 54 53 53,ag 10 54])
 (.seq (.seq (.aq [dR 11])
 (.block 2 (.loop IM)))
 (.seq (.draw [ag 68 6,bS 69 68,dh 70 69,bu 71 70,eh 72 71,HN 73 72 72,ag 74 6,bS 75 74,dh 76 75,bu 77 76,eh 78 77,HN 79 78 78,ag 12 73,ag 13 79] [(3,[14]),(9,[14])])
 (.seq (.aq [gU 14])
 (.seq (.seq (.aq [dR 15])
 (.block 4 (.loop IN)))
 (.seq (.seq (.aq [dR 19])
 (.block 6 (.loop IP)))
 (.seq (.aq [ag 155 14,⟨some 156,.call 85 [(.t 155)],none,[155]⟩,ag 4 156,dR 5])
 (.ret)))))))))))
theorem aa2:dN 55 157 Tryz.f55 Qm [.t 4,.t 5]:=⟨Tryz.func55,by kernel_rfl⟩
def Qn:aY:=
 .seq (.aq [jD 1 0,⟨some 2,.b0 (.c .mH),none,[]⟩])
 (.seq (.aq [⟨some 3,.fn 86 [(.t 1)],none,[1]⟩,ag 2 3])
 (.ret))
theorem aa4:dN 56 4 Tryz.f56 Qn [.t 2]:=⟨Tryz.func56,by kernel_rfl⟩
def Qo:aY:=
 .seq (.aq [jD 1 0,fp 2])
 (.seq (.seq (.aq [dh 3 1,bu 4 3])
 (.block 0 (.seq (.aq [qJ 6 4,ag 5 6])
 (.cond (.t 5)
 (.seq (.aq [c7 7 1,bu 8 7,DJ 9 8,ag 10 9,rX 11 1 10,gz 12 11 10,⟨some 13,.bin (.int .leq) (.t 12) (.c (.int .i64 1048575)),(some (10,true)),[12,10]⟩,eD 14 10 13,ag 15 14,xW 16 1 15,gz 17 16 15,⟨some 18,.bin (.str .eql) (.t 17) (.c (.str [])),(some (15,true)),[17,15]⟩,eD 19 15 18,ag 20 19,tt 21 1 20,gz 22 21 20,xX 23 22 20,HF 24 23 20,eD 25 20 24,ag 2 25])
 (.ret))
 (.seq (.aq [⟨some 27,.bin (.int .eql) (.t 4) (.c (.int .i64 2)),none,[4]⟩,ag 26 27])
 (.cond (.t 26)
 (.seq (.seq (.aq [hT 28 1,bu 29 28,⟨some 30,.bin (.str .eql) (.t 29) (.c (.str [45,62])),none,[29]⟩,ag 31 30,⟨some 32,.eH 2 (.t 1),(some (31,false)),[1,31]⟩,pJ 33 32 31,⟨some 34,.bin (.str .eql) (.t 33) (.c (.str [42])),(some (31,false)),[33,31]⟩,hv 35 31 34])
 (.cond (.t 35)
 (.seq (.aq [c7 36 1,bu 37 36,AA 38 37,ag 39 38,tt 40 1 39,gz 41 40 39,xX 42 41 39,⟨some 43,.bin (.int .eql) (.t 42) (.c (.int .i64 2)),(some (39,true)),[42,39]⟩,eD 44 39 43,ag 2 44])
 (.ret))
 (.skip)))
 (.seq (.aq [c7 45 1,bu 46 45,AA 47 46,ag 48 47,tt 49 1 48,gz 50 49 48,xX 51 50 48,⟨some 52,.bin (.int .leq) (.t 51) (.c (.int .i64 64)),(some (48,true)),[51,48]⟩,eD 53 48 52,ag 54 53,xW 55 1 54,gz 56 55 54,⟨some 57,.call 88 [(.t 56)],(some (54,true)),[56,54]⟩,eD 58 54 57,ag 2 58])
 (.ret)))
 (.skip)))))))
 (.seq (.aq [fp 2])
 (.ret)))
theorem aa5:dN 57 59 Tryz.f57 Qo [.t 2]:=⟨Tryz.func57,by kernel_rfl⟩
def IT:aY:=
 .seq (.seq (.aq [ag 68 4,jE 69 1,bu 70 69,eh 71 70,fP 72 68 71])
 (.cond (.t 72)
 (.skip)
 (.exit 0)))
 (.seq (.block 1 (.seq (.aq [jE 75 1,bu 76 75,ag 77 4,mS 78 76 77,fQ 79 78,⟨some 80,.call 58 [(.t 79)],none,[79]⟩,mT 81 80])
 (.cond (.t 81)
 (.seq (.aq [fp 2])
 (.ret))
 (.skip))))
 (.aq [ag 73 4,eg 74 73,ag 4 74]))
def Qp:aY:=
 .seq (.aq [jD 1 0,fp 2])
 (.seq (.seq (.aq [dh 5 1,bu 6 5,qJ 7 6])
 (.cond (.t 7)
 (.seq (.aq [c7 8 1,bu 9 8,DJ 10 9,ag 11 10,rX 12 1 11,gz 13 12 11,⟨some 14,.bin (.int .leq) (.t 13) (.c (.int .i64 1048575)),(some (11,true)),[13,11]⟩,eD 15 11 14,ag 16 15,xW 17 1 16,gz 18 17 16,⟨some 19,.bin (.str .eql) (.t 18) (.c (.str [])),(some (16,true)),[18,16]⟩,eD 20 16 19,ag 21 20,tt 22 1 21,gz 23 22 21,xX 24 23 21,HF 25 24 21,eD 26 21 25,ag 2 26])
 (.ret))
 (.skip)))
 (.seq (.aq [hT 27 1,bu 28 27,⟨some 29,.bin (.str .eql) (.t 28) (.c (.str [45,62])),none,[28]⟩,ag 30 29,⟨some 31,.eH 2 (.t 1),(some (30,false)),[1,30]⟩,pJ 32 31 30,⟨some 33,.bin (.str .eql) (.t 32) (.c (.str [42])),(some (30,false)),[32,30]⟩,hv 34 30 33,ag 3 34])
 (.seq (.seq (.aq [dh 35 1,bu 36 35,⟨some 37,.bin (.int .neq) (.t 36) (.c (.int .i64 2)),none,[36]⟩,ag 38 37,DC 39 1 38,pJ 40 39 38,⟨some 41,.bin (.int .neq) (.t 40) (.c (.int .i64 0)),(some (38,false)),[40,38]⟩,hv 42 38 41,ag 43 42,gT 44 3 43,gT 45 44 43,tt 46 1 45,gz 47 46 45,xX 48 47 45,⟨some 49,.bin (.int .neq) (.t 48) (.c (.int .i64 2)),(some (45,true)),[48,45]⟩,HM 50 45 49 43,hv 51 43 50,ag 52 51,gT 53 3 52,⟨some 54,.un .not (.t 53),(some (52,false)),[53,52]⟩,gT 55 54 52,xW 56 1 55,gz 57 56 55,⟨some 58,.call 89 [(.c (.int .i64 3)),(.t 57)],(some (55,true)),[57,55]⟩,⟨some 59,.un .not (.t 58),(some (55,true)),[58,55]⟩,en 60 59 55,⟨some 61,.eH 3 (.t 1),(some (60,false)),[1,60]⟩,pJ 62 61 60,Az 63 62 60,⟨some 64,.bin (.int .gtr) (.t 63) (.c (.int .i64 64)),(some (60,false)),[63,60]⟩,⟨some 65,.pick (.t 60) (.c (.bool true)) (.t 64),(some (55,true)),[60,64,55]⟩,HM 66 55 65 52,hv 67 52 66])
 (.cond (.t 67)
 (.seq (.aq [fp 2])
 (.ret))
 (.skip)))
 (.seq (.seq (.aq [dR 4])
 (.block 0 (.loop IT)))
 (.seq (.aq [rW 2])
 (.ret))))))
theorem aa6:dN 58 82 Tryz.f58 Qp [.t 2]:=⟨Tryz.func58,by kernel_rfl⟩
def Qr:aY:=
 .seq (.seq (.aq [ag 5 4,jE 6 1,bu 7 6,eh 8 7,fP 9 5 8])
 (.cond (.t 9)
 (.skip)
 (.exit 0)))
 (.seq (.block 1 (.aq [ag 12 3,jE 13 1,bu 14 13,ag 15 4,mS 16 14 15,fQ 17 16,⟨some 18,.call 59 [(.t 17)],none,[17]⟩,DG 19 12 18,ag 3 19]))
 (.aq [ag 10 4,eg 11 10,ag 4 11]))
def Qq:aY:=
 .seq (.aq [jD 1 0,dR 2])
 (.seq (.aq [dR 3])
 (.seq (.seq (.aq [dR 4])
 (.block 0 (.loop Qr)))
 (.seq (.aq [ag 20 3,eg 21 20,ag 2 21])
 (.ret))))
theorem aa7:dN 59 22 Tryz.f59 Qq [.t 2]:=⟨Tryz.func59,by kernel_rfl⟩
def Qu:aY:=
 .seq (.seq (.aq [ag 16 6,jE 17 3,bu 18 17,eh 19 18,fP 20 16 19])
 (.cond (.t 20)
 (.skip)
 (.exit 0)))
 (.seq (.block 1 (.seq (.aq [ag 23 0,jE 24 3,bu 25 24,ag 26 6,mS 27 25 26,fQ 28 27,⟨some 29,.call 79 [(.t 23),(.t 28)],none,[23,28]⟩,ag 7 29])
 (.aq [ag 30 5,ag 31 7,⟨some 32,.il 1 1 [(.int .i64 0)] [(0,1,(.t 31))],none,[31]⟩,Ay 33 30 32,ag 5 33])))
 (.aq [ag 21 6,eg 22 21,ag 6 22]))
def Qt:aY:=
 .seq (.aq [jD 3 1,dR 4])
 (.seq (.seq (.aq [dh 9 3,bu 10 9,qJ 11 10])
 (.cond (.t 11)
 (.seq (.aq [ag 12 0,c7 13 3,bu 14 13,⟨some 15,.call 103 [(.t 12),(.t 14)],none,[12,14]⟩,ag 4 15])
 (.ret))
 (.skip)))
 (.seq (.aq [gU 5])
 (.seq (.seq (.aq [dR 6])
 (.block 0 (.loop Qu)))
 (.seq (.aq [ag 34 0,bS 35 34,dh 36 35,bu 37 36,eh 38 37,ag 8 38])
 (.seq (.draw [ag 39 0,ag 40 0,bS 41 40,dh 42 41,bu 43 42,hT 44 3,bu 45 44,N' 46 45,ag 47 5,ag 48 8,⟨some 49,.build [(.int .i64 0),(.int .i64 0),(.str []),.bB,.bB,(.int .i64 0)] [(0,4,(.t 46)),(4,1,(.t 47)),(5,1,(.t 48))],none,[46,47,48]⟩,N_ 50 49,⟨some 51,.app 6 (.t 43) (.t 50),none,[43,50]⟩,bS 52 39,dh 53 52,⟨none,.st 1 (.t 53) (.t 51),none,[53,51]⟩] [(4,[12]),(6,[12])])
 (.seq (.aq [ag 54 8,ag 4 54])
 (.ret)))))))
theorem aa9:dN 79 55 Tryz.f79 Qt [.t 4]:=⟨Tryz.func79,by kernel_rfl⟩
def Qw:aY:=
 .seq (.seq (.aq [ag 119 8,nQ 120 6,bu 121 120,eh 122 121,fP 123 119 122])
 (.cond (.t 123)
 (.skip)
 (.exit 1)))
 (.seq (.block 2 (.draw [ag 126 0,nQ 127 6,bu 128 127,ag 129 8,iC 130 128 129,bu 131 130,nQ 132 7,bu 133 132,ag 134 8,iC 135 133 134,bu 136 135,⟨some 137,.call 80 [(.t 126),(.t 131),(.t 136)],none,[126,131,136]⟩] [(2,[11]),(5,[11]),(7,[11]),(10,[11])]))
 (.aq [ag 124 8,eg 125 124,ag 8 125]))
def Qv:aY:=
 .seq (.aq [ag 9 0,ag 10 1,vg 11 9 10,ag 1 11])
 (.seq (.aq [ag 12 0,ag 13 2,vg 14 12 13,ag 2 14])
 (.seq (.seq (.aq [ag 15 1,ag 16 2,DH 17 15 16])
 (.cond (.t 17)
 (.ret)
 (.skip)))
 (.seq (.draw [ag 18 0,bS 19 18,dh 20 19,bu 21 20,ag 22 1,mU 23 21 22,⟨some 24,.iM 6 (.t 23),none,[23]⟩,ag 25 0,bS 26 25,dh 27 26,bu 28 27,ag 29 2,mU 30 28 29,⟨some 31,.iM 6 (.t 30),none,[30]⟩,HO 6,HO 7,⟨none,.st 6 (.t 6) (.t 24),none,[6,24]⟩,⟨none,.st 6 (.t 7) (.t 31),none,[7,31]⟩] [(3,[16]),(6,[16]),(10,[16,17]),(13,[16,17])])
 (.seq (.block 0 (.seq (.aq [dh 33 6,dh 34 33,bu 35 34,qJ 36 35,ag 37 36,tu 38 7 37,tu 39 38 37,gz 40 39 37,⟨some 41,.bin (.int .eql) (.t 40) (.c (.int .i64 1)),(some (37,true)),[40,37]⟩,eD 42 37 41,ag 32 42])
 (.cond (.t 32)
 (.seq (.seq (.aq [dh 43 6,c7 44 43,bu 45 44,dh 46 7,c7 47 46,bu 48 47,fP 49 45 48])
 (.cond (.t 49)
 (.aq [ag 50 0,bS 51 50,dh 52 51,bu 53 52,ag 54 2,ag 55 1,mU 56 53 54,vh 57 56,⟨none,.st 1 (.t 57) (.t 55),none,[57,55]⟩])
 (.aq [ag 58 0,bS 59 58,dh 60 59,bu 61 60,ag 62 1,ag 63 2,mU 64 61 62,vh 65 64,⟨none,.st 1 (.t 65) (.t 63),none,[65,63]⟩])))
 (.ret))
 (.seq (.aq [dh 67 6,dh 68 67,bu 69 68,qJ 70 69,ag 66 70])
 (.cond (.t 66)
 (.seq (.aq [ag 71 0,bS 72 71,dh 73 72,bu 74 73,ag 75 1,ag 76 2,mU 77 74 75,vh 78 77,⟨none,.st 1 (.t 78) (.t 76),none,[78,76]⟩])
 (.ret))
 (.seq (.aq [dh 80 7,dh 81 80,bu 82 81,qJ 83 82,ag 79 83])
 (.cond (.t 79)
 (.seq (.aq [ag 84 0,bS 85 84,dh 86 85,bu 87 86,ag 88 2,ag 89 1,mU 90 87 88,vh 91 90,⟨none,.st 1 (.t 91) (.t 89),none,[91,89]⟩])
 (.ret))
 (.skip))))))))
 (.seq (.seq (.aq [dh 92 6,hT 93 92,bu 94 93,dh 95 7,hT 96 95,bu 97 96,⟨some 98,.bin (.str .neq) (.t 94) (.t 97),none,[94,97]⟩,ag 99 98,⟨some 100,.eH 4 (.t 6),(some (99,false)),[6,99]⟩,pJ 101 100 99,Az 102 101 99,⟨some 103,.eH 4 (.t 7),(some (99,false)),[7,99]⟩,pJ 104 103 99,Az 105 104 99,⟨some 106,.bin (.int .neq) (.t 102) (.t 105),(some (99,false)),[102,105,99]⟩,hv 107 99 106])
 (.cond (.t 107)
 (.seq (.aq [ag 108 0,bS 109 108,hT 110 109,⟨none,.st 1 (.t 110) (.c (.bool true)),none,[110]⟩])
 (.ret))
 (.skip)))
 (.seq (.aq [ag 111 0,bS 112 111,dh 113 112,bu 114 113,ag 115 1,ag 116 2,mU 117 114 115,vh 118 117,⟨none,.st 1 (.t 118) (.t 116),none,[118,116]⟩])
 (.seq (.aq [dR 8])
 (.block 1 (.loop Qw)))))))))
theorem aa':dN 80 138 Tryz.f80 Qv []:=⟨Tryz.func80,by kernel_rfl⟩
def Qy:aY:=
 .seq (.seq (.aq [ag 24 7,ag 25 0,bS 26 25,dh 27 26,bu 28 27,ag 29 1,mU 30 28 29,nQ 31 30,bu 32 31,eh 33 32,fP 34 24 33])
 (.cond (.t 34)
 (.skip)
 (.exit 0)))
 (.seq (.block 1 (.seq (.aq [ag 37 0,ag 38 0,bS 39 38,dh 40 39,bu 41 40,ag 42 1,mU 43 41 42,nQ 44 43,bu 45 44,ag 46 7,iC 47 45 46,bu 48 47,ag 49 2,⟨some 50,.call 81 [(.t 37),(.t 48),(.t 49)],none,[37,48,49]⟩])
 (.cond (.t 50)
 (.seq (.aq [rW 6])
 (.ret))
 (.skip))))
 (.aq [ag 35 7,eg 36 35,ag 7 36]))
def Qx:aY:=
 .seq (.aq [fp 6])
 (.seq (.aq [ag 8 0,ag 9 1,vg 10 8 9,ag 1 10])
 (.seq (.seq (.aq [ag 11 2,ag 12 1,iC 13 11 12,bu 14 13,DI 15 14])
 (.cond (.t 15)
 (.seq (.aq [ag 16 2,ag 17 1,iC 18 16 17,bu 19 18,qJ 20 19,ag 6 20])
 (.ret))
 (.skip)))
 (.seq (.aq [ag 21 2,ag 22 1,iC 23 21 22,⟨none,.st 1 (.t 23) (.c (.int .i64 1)),none,[23]⟩])
 (.seq (.seq (.aq [dR 7])
 (.block 0 (.loop Qy)))
 (.seq (.aq [ag 51 2,ag 52 1,iC 53 51 52,⟨none,.st 1 (.t 53) (.c (.int .i64 2)),none,[53]⟩])
 (.seq (.aq [fp 6])
 (.ret)))))))
theorem aa_:dN 81 54 Tryz.f81 Qx [.t 6]:=⟨Tryz.func81,by kernel_rfl⟩
def QA:aY:=
 .seq (.seq (.aq [ag 5 0,bS 6 5,dh 7 6,bu 8 7,ag 9 1,mU 10 8 9,vh 11 10,bu 12 11,ag 13 1,vf 14 12 13])
 (.cond (.t 14)
 (.skip)
 (.exit 0)))
 (.block 1 (.aq [ag 15 0,bS 16 15,dh 17 16,bu 18 17,ag 19 1,mU 20 18 19,vh 21 20,bu 22 21,ag 1 22]))
def Qz:aY:=
 .seq (.aq [dR 4])
 (.seq (.block 0 (.loop QA))
 (.seq (.aq [ag 23 1,ag 4 23])
 (.ret)))
theorem aba:dN 82 24 Tryz.f82 Qz [.t 4]:=⟨Tryz.func82,by kernel_rfl⟩
def QC:aY:=
 .seq (.seq (.aq [ag 31 12,ag 32 0,bS 33 32,dh 34 33,bu 35 34,ag 36 1,mU 37 35 36,nQ 38 37,bu 39 38,eh 40 39,fP 41 31 40])
 (.cond (.t 41)
 (.skip)
 (.exit 0)))
 (.seq (.block 1 (.seq (.aq [ag 45 0,ag 46 0,bS 47 46,dh 48 47,bu 49 48,ag 50 1,mU 51 49 50,nQ 52 51,bu 53 52,ag 54 12,iC 55 53 54,bu 56 55,ag 57 2,ag 58 3,⟨some 59,.call 83 [(.t 45),(.t 56),(.t 57),(.t 58)],none,[45,56,57,58]⟩,ag 44 59,lA 60 44,kD 61 44,ag 13 60,ag 14 61])
 (.seq (.aq [ag 62 10,ag 63 13,xV 64 62 63,⟨some 65,.uC [(.t 64),(.c (.int .i64 4097))],none,[64]⟩,ag 10 65])
 (.aq [ag 66 11,ag 67 14,DG 68 66 67,ag 11 68]))))
 (.aq [ag 42 12,eg 43 42,ag 12 43]))
def QB:aY:=
 .seq (.aq [dR 8,dR 9])
 (.seq (.aq [ag 15 0,ag 16 1,vg 17 15 16,ag 1 17])
 (.seq (.seq (.aq [ag 18 2,ag 19 1,iC 20 18 19,bu 21 20,DI 22 21])
 (.cond (.t 22)
 (.seq (.draw [ag 23 2,ag 24 1,iC 25 23 24,bu 26 25,ag 27 3,ag 28 1,iC 29 27 28,bu 30 29,ag 8 26,ag 9 30] [])
 (.ret))
 (.skip)))
 (.seq (.aq [Dz 10,dR 11])
 (.seq (.seq (.aq [dR 12])
 (.block 0 (.loop QC)))
 (.seq (.aq [ag 69 2,ag 70 1,ag 71 10,iC 72 69 70,⟨none,.st 1 (.t 72) (.t 71),none,[72,71]⟩])
 (.seq (.aq [ag 73 3,ag 74 1,ag 75 11,eg 76 75,iC 77 73 74,⟨none,.st 1 (.t 77) (.t 76),none,[77,76]⟩])
 (.seq (.aq [ag 78 10,ag 79 11,eg 80 79,ag 8 78,ag 9 80])
 (.ret))))))))
theorem abb:dN 83 81 Tryz.f83 QB [.t 8,.t 9]:=⟨Tryz.func83,by kernel_rfl⟩
def QE:aY:=
 .seq (.seq (.aq [ag 28 7,nQ 29 5,bu 30 29,eh 31 30,fP 32 28 31])
 (.cond (.t 32)
 (.skip)
 (.exit 0)))
 (.seq (.block 1 (.seq (.aq [ag 35 0,nQ 36 5,bu 37 36,ag 38 7,iC 39 37 38,bu 40 39,⟨some 41,.call 84 [(.t 35),(.t 40)],none,[35,40]⟩,mR 8,⟨none,.st 4 (.t 8) (.t 41),none,[8,41]⟩])
 (.aq [jE 42 6,bu 43 42,fQ 44 8,ve 45 44,xS 46 43 45,jE 47 6,⟨none,.st 1 (.t 47) (.t 46),none,[47,46]⟩])))
 (.aq [ag 33 7,eg 34 33,ag 7 34]))
def QD:aY:=
 .seq (.aq [mR 4])
 (.seq (.draw [ag 9 0,bS 10 9,dh 11 10,bu 12 11,ag 13 0,ag 14 1,HO 5,vg 15 13 14,mU 16 12 15,⟨some 17,.iM 6 (.t 16),none,[16]⟩,⟨none,.st 6 (.t 5) (.t 17),none,[5,17]⟩] [(3,[7,10]),(9,[10])])
 (.seq (.aq [dh 18 5,dh 19 18,bu 20 19,dh 21 5,c7 22 21,bu 23 22,dh 24 5,hT 25 24,bu 26 25,⟨some 27,.build [(.int .i64 0),(.int .i64 0),(.str []),.bB] [(0,1,(.t 20)),(1,1,(.t 23)),(2,1,(.t 26))],none,[20,23,26]⟩,mR 6,⟨none,.st 4 (.t 6) (.t 27),none,[6,27]⟩])
 (.seq (.seq (.aq [dR 7])
 (.block 0 (.loop QE)))
 (.seq (.aq [fQ 48 6,⟨none,.st 4 (.t 4) (.t 48),none,[4,48]⟩])
 (.ret)))))
theorem abc:dN 84 49 Tryz.f84 QD [.sg 4 4]:=⟨Tryz.func84,by kernel_rfl⟩
def QG:aY:=
 .seq (.seq (.draw [ag 13 5,ag 14 3,eh 15 14,fP 16 13 15,ag 17 16,en 18 3 17,en 19 5 17,⟨some 20,.cH 5 (.t 18) (.t 19),(some (17,true)),[18,19,17]⟩,tu 21 20 17,gz 22 21 17,en 23 0 17,en 24 4 17,⟨some 25,.cH 5 (.t 23) (.t 24),(some (17,true)),[23,24,17]⟩,tu 26 25 17,gz 27 26 17,HL 28 22 27 17,eD 29 17 28] [])
 (.cond (.t 29)
 (.skip)
 (.exit 2)))
 (.block 3 (.aq [ag 30 5,eg 31 30,ag 5 31]))
def QH:aY:=
 .seq (.seq (.aq [ag 7 4,ag 8 0,eh 9 8,fP 10 7 9])
 (.cond (.t 10)
 (.skip)
 (.exit 0)))
 (.seq (.block 1 (.seq (.aq [dR 5])
 (.seq (.block 2 (.loop QG))
 (.seq (.aq [⟨some 32,.il 0 5 [(.int .i64 0),(.int .i64 0),(.int .i64 0),(.str []),.bB] [],none,[]⟩,ag 33 3,ag 34 5,⟨some 35,.fY 5 (.t 33) (some (.t 34)) none none,none,[33,34]⟩,xU 36 32 35,ag 6 36])
 (.draw [ag 37 3,ag 38 5,ag 39 5,⟨some 40,.fY 5 (.t 37) none (some (.t 38)) (some (.t 39)),none,[37,38,39]⟩,ag 41 0,ag 42 4,ts 43 41 42,⟨some 44,.iM 5 (.t 43),none,[43]⟩,DE 45 44,ag 47 6,xU 46 40 45,xU 48 46 47,ag 3 48] [(7,[10])])))))
 (.aq [ag 11 4,eg 12 11,ag 4 12]))
def QF:aY:=
 .seq (.aq [gU 2])
 (.seq (.aq [gU 3])
 (.seq (.seq (.aq [dR 4])
 (.block 0 (.loop QH)))
 (.seq (.aq [ag 49 3,ag 2 49])
 (.ret))))
theorem abd:dN 85 50 Tryz.f85 QF [.t 2]:=⟨Tryz.func85,by kernel_rfl⟩
def QI:aY:=
 .seq (.aq [jD 2 0])
 (.seq (.aq [⟨some 3,.new [.mH],none,[]⟩])
 (.seq (.aq [⟨some 4,.fn 87 [(.t 2),(.t 3)],none,[2,3]⟩,⟨none,.st 1 (.t 3) (.t 4),none,[3,4]⟩])
 (.aq [bu 5 3,fQ 6 1,⟨some 7,.o1 (.t 5) [(.c (.int .i64 1)),(.t 6)],none,[5,6]⟩])))
theorem abe:dN 86 8 Tryz.f86 QI []:=⟨Tryz.func86,by kernel_rfl⟩
def QK:aY:=
 .seq (.aq [fP 18 17 16])
 (.seq (.cond (.t 18)
 (.skip)
 (.exit 0))
 (.seq (.block 1 (.seq (.aq [mS 19 15 17,fQ 20 19,mR 8,⟨none,.st 4 (.t 8) (.t 20),none,[8,20]⟩])
 (.seq (.aq [bu 21 3,ag 22 0,eg 23 22,fQ 24 8,⟨some 25,.o1 (.t 21) [(.t 23),(.t 24)],none,[21,23,24]⟩,mT 26 25])
 (.cond (.t 26)
 (.seq (.aq [fp 6])
 (.ret))
 (.skip)))))
 (.aq [eg 27 17,ag 17 27])))
def QJ:aY:=
 .seq (.aq [jD 5 1,fp 6])
 (.seq (.seq (.aq [bu 9 2,ag 10 0,fQ 11 5,⟨some 12,.o1 (.t 9) [(.t 10),(.t 11)],none,[9,10,11]⟩,mT 13 12])
 (.cond (.t 13)
 (.seq (.aq [fp 6])
 (.ret))
 (.skip)))
 (.seq (.seq (.aq [jE 14 5,bu 15 14,eh 16 15,dR 17])
 (.block 0 (.loop QK)))
 (.seq (.aq [rW 6])
 (.ret))))
theorem abf:dN 87 28 Tryz.f87 QJ [.t 6]:=⟨Tryz.func87,by kernel_rfl⟩
def QL:aY:=
 .seq (.aq [fp 2])
 (.seq (.aq [ag 6 0,⟨some 7,.call 104 [(.t 6)],none,[6]⟩,ag 5 7,lA 8 5,kD 9 5,⟨some 4,.new [(.int .i64 0),(.int .i64 0)],none,[]⟩,ag 3 8,⟨none,.st 2 (.t 4) (.t 9),none,[4,9]⟩])
 (.seq (.aq [dh 10 4,bu 11 10,AA 12 11,ag 13 12,en 14 3 13,xX 15 14 13,⟨some 16,.bin (.int .eql) (.t 15) (.c (.int .i64 1)),(some (13,true)),[15,13]⟩,eD 17 13 16,ag 18 17,en 19 3 18,⟨some 20,.cH 4 (.t 19) (.c (.int .i64 0)),(some (18,true)),[19,18]⟩,tu 21 20 18,gz 22 21 18,⟨some 23,.bin (.int .eql) (.t 22) (.c (.int .i64 3)),(some (18,true)),[22,18]⟩,eD 24 18 23,ag 25 24,en 26 3 25,⟨some 27,.cH 4 (.t 26) (.c (.int .i64 0)),(some (25,true)),[26,25]⟩,tt 28 27 25,gz 29 28 25,en 30 0 25,HJ 31 29 30 25,eD 32 25 31,ag 2 32])
 (.ret)))
theorem abg:dN 88 33 Tryz.f88 QL [.t 2]:=⟨Tryz.func88,by kernel_rfl⟩
def QN:aY:=
 .seq (.seq (.aq [ag 13 5,ag 14 1,nR 15 14,fP 16 13 15])
 (.cond (.t 16)
 (.skip)
 (.exit 0)))
 (.seq (.block 1 (.seq (.aq [ag 19 1,ag 20 5,DK 21 19 20,⟨some 22,.call 105 [(.t 21)],none,[21]⟩,mT 23 22])
 (.cond (.t 23)
 (.seq (.aq [fp 4])
 (.ret))
 (.skip))))
 (.aq [ag 17 5,eg 18 17,ag 5 18]))
def QM:aY:=
 .seq (.aq [fp 4])
 (.seq (.seq (.aq [ag 6 1,⟨some 7,.bin (.str .eql) (.t 6) (.c (.str [])),none,[6]⟩,ag 8 7,gT 9 1 8,⟨some 10,.len .str (.t 9),(some (8,false)),[9,8]⟩,⟨some 11,.bin (.int .gtr) (.t 10) (.c (.int .i64 64)),(some (8,false)),[10,8]⟩,hv 12 8 11])
 (.cond (.t 12)
 (.seq (.aq [fp 4])
 (.ret))
 (.skip)))
 (.seq (.seq (.aq [dR 5])
 (.block 0 (.loop QN)))
 (.seq (.seq (.aq [ag 24 0])
 (.block 2 (.seq (.aq [⟨some 26,.bin (.int .eql) (.t 24) (.c (.int .i64 4)),none,[24]⟩,ag 25 26])
 (.cond (.t 25)
 (.seq (.aq [ag 27 1,DL 28 27,⟨some 29,.call 106 [(.t 28),(.c (.int .u8 65)),(.c (.int .u8 90))],none,[28]⟩,ag 4 29])
 (.ret))
 (.seq (.aq [⟨some 31,.bin (.int .eql) (.t 24) (.c (.int .i64 5)),none,[24]⟩,ag 30 31])
 (.cond (.t 30)
 (.seq (.aq [ag 32 1,DL 33 32,HP 34 33,ag 4 34])
 (.ret))
 (.skip)))))))
 (.seq (.aq [ag 35 1,DL 36 35,HP 37 36,ag 38 37,gT 39 1 38,⟨some 40,.mA (.t 39) (.c (.int .i64 0)),(some (38,false)),[39,38]⟩,DM 41 40 38,hv 42 38 41,ag 43 42,en 44 1 43,⟨some 45,.bin (.str .neq) (.t 44) (.c (.str [95])),(some (43,true)),[44,43]⟩,eD 46 43 45,ag 47 46,en 48 1 47,⟨some 49,.call 108 [],(some (47,true)),[47]⟩,⟨some 50,.call 107 [(.t 48),(.t 49)],(some (47,true)),[48,49,47]⟩,⟨some 51,.un .not (.t 50),(some (47,true)),[50,47]⟩,eD 52 47 51,ag 4 52])
 (.ret)))))
theorem abh:dN 89 53 Tryz.f89 QM [.t 4]:=⟨Tryz.func89,by kernel_rfl⟩
def Pw:aY:=
 .seq (.seq (.aq [ag 7 5,ag 8 0,bS 9 8,c7 10 9,bu 11 10,eh 12 11,fP 13 7 12])
 (.cond (.t 13)
 (.skip)
 (.exit 0)))
 (.seq (.block 1 (.seq (.aq [ag 16 0,bS 17 16,c7 18 17,bu 19 18,ag 20 5,ts 21 19 20,dh 22 21,bu 23 22,ag 24 1,DH 25 23 24])
 (.cond (.t 25)
 (.seq (.aq [ag 26 0,bS 27 26,c7 28 27,bu 29 28,ag 30 5,ts 31 29 30,c7 32 31,c7 33 32,bu 34 33,ag 4 34])
 (.ret))
 (.skip))))
 (.aq [ag 14 5,eg 15 14,ag 5 15]))
def Pv:aY:=
 .seq (.aq [dR 4])
 (.seq (.seq (.aq [dR 5])
 (.block 0 (.loop Pw)))
 (.seq (.aq [ag 35 0,bS 36 35,dh 37 36,bu 38 37,eh 39 38,ag 6 39])
 (.seq (.aq [ag 40 0,ag 41 0,bS 42 41,dh 43 42,bu 44 43,ag 45 1,Au 46 45,ag 47 6,⟨some 48,.build [(.int .i64 0),(.int .i64 0),(.str []),.bB,.bB,(.int .i64 0)] [(0,4,(.t 46)),(5,1,(.t 47))],none,[46,47]⟩,N_ 49 48,⟨some 50,.app 6 (.t 44) (.t 49),none,[44,49]⟩,bS 51 40,dh 52 51,⟨none,.st 1 (.t 52) (.t 50),none,[52,50]⟩])
 (.seq (.aq [ag 53 0,ag 54 0,bS 55 54,c7 56 55,bu 57 56,ag 58 1,ag 59 6,⟨some 60,.build [(.int .i64 0),(.int .i64 0),(.str []),.bB] [(1,1,(.t 59))],none,[59]⟩,HI 61 58 60,DE 62 61,xU 63 57 62,bS 64 53,c7 65 64,⟨none,.st 1 (.t 65) (.t 63),none,[65,63]⟩])
 (.seq (.aq [ag 66 6,ag 4 66])
 (.ret))))))
theorem aag:dN 103 67 Tryz.f103 Pv [.t 4]:=⟨Tryz.func103,by kernel_rfl⟩
def Pz:aY:=
 .seq (.aq [fp 2])
 (.seq (.aq [ag 3 0,HP 4 3,ag 5 4,gT 6 0 5,⟨some 7,.call 106 [(.t 6),(.c (.int .u8 65)),(.c (.int .u8 90))],(some (5,false)),[6,5]⟩,hv 8 5 7,ag 9 8,gT 10 0 9,⟨some 11,.call 106 [(.t 10),(.c (.int .u8 48)),(.c (.int .u8 57))],(some (9,false)),[10,9]⟩,hv 12 9 11,ag 13 12,gT 14 0 13,DM 15 14 13,hv 16 13 15,ag 17 16,gT 18 0 17,⟨some 19,.bin (.int .eql) (.t 18) (.c (.int .u8 39)),(some (17,false)),[18,17]⟩,hv 20 17 19,ag 2 20])
 (.ret))
theorem aai:dN 105 21 Tryz.f105 Pz [.t 2]:=⟨Tryz.func105,by kernel_rfl⟩
def PA:aY:=
 .seq (.aq [fp 6])
 (.seq (.aq [ag 7 0,ag 8 1,AB 9 7 8,ag 10 9,en 11 0 10,en 12 2 10,⟨some 13,.bin (.int .leq) (.t 11) (.t 12),(some (10,true)),[11,12,10]⟩,eD 14 10 13,ag 6 14])
 (.ret))
theorem aaj:dN 106 15 Tryz.f106 PA [.t 6]:=⟨Tryz.func106,by kernel_rfl⟩
def PC:aY:=
 .seq (.seq (.aq [ag 6 5,ag 7 1,eh 8 7,fP 9 6 8])
 (.cond (.t 9)
 (.skip)
 (.exit 0)))
 (.seq (.block 1 (.seq (.aq [ag 12 1,ag 13 5,iC 14 12 13,bu 15 14,ag 16 0,⟨some 17,.bin (.str .eql) (.t 15) (.t 16),none,[15,16]⟩])
 (.cond (.t 17)
 (.seq (.aq [rW 4])
 (.ret))
 (.skip))))
 (.aq [ag 10 5,eg 11 10,ag 5 11]))
def PB:aY:=
 .seq (.aq [fp 4])
 (.seq (.seq (.aq [dR 5])
 (.block 0 (.loop PC)))
 (.seq (.aq [fp 4])
 (.ret)))
theorem aak:dN 107 18 Tryz.f107 PB [.t 4]:=⟨Tryz.func107,by kernel_rfl⟩
def PD:aY:=
 .seq (.aq [gU 0])
 (.seq (.aq [⟨some 1,.il 20 1 [(.str [])] [(0,1,(.c (.str [97,110,100]))),(1,1,(.c (.str [98,101,103,105,110]))),(2,1,(.c (.str [101,108,115,101]))),(3,1,(.c (.str [101,110,100]))),(4,1,(.c (.str [101,120,99,101,112,116,105,111,110]))),(5,1,(.c (.str [102,97,108,115,101]))),(6,1,(.c (.str [102,117,110]))),(7,1,(.c (.str [105,102]))),(8,1,(.c (.str [105,110]))),(9,1,(.c (.str [108,101,116]))),(10,1,(.c (.str [109,97,116,99,104]))),(11,1,(.c (.str [109,111,100]))),(12,1,(.c (.str [111,102]))),(13,1,(.c (.str [114,97,105,115,101]))),(14,1,(.c (.str [114,101,99]))),(15,1,(.c (.str [116,104,101,110]))),(16,1,(.c (.str [116,114,117,101]))),(17,1,(.c (.str [116,114,121]))),(18,1,(.c (.str [116,121,112,101]))),(19,1,(.c (.str [119,105,116,104])))],none,[]⟩,ag 0 1])
 (.ret))
theorem aal:dN 108 2 Tryz.f108 PD [.t 0]:=⟨Tryz.func108,by kernel_rfl⟩
def Em:aY:=
 .seq (.aq [fP 12 11 10])
 (.seq (.cond (.t 12)
 (.skip)
 (.exit 0))
 (.seq (.block 1 (.seq (.aq [iC 13 9 11,bu 14 13,ag 5 14])
 (.seq (.aq [ag 15 3,ag 16 5,eh 17 16,xV 18 15 17,ag 3 18])
 (.seq (.aq [ag 19 3,DF 20 19])
 (.cond (.t 20)
 (.aq [⟨some 21,.sO 9 (.c (.str [108,101,110,32,111,117,116,32,111,102,32,114,97,110,103,101])),none,[]⟩,⟨none,.bad,none,[21]⟩])
 (.skip))))))
 (.aq [eg 22 11,ag 11 22])))
def En:aY:=
 .seq (.aq [fP 28 27 26])
 (.seq (.cond (.t 28)
 (.skip)
 (.exit 2))
 (.seq (.block 3 (.seq (.aq [iC 29 25 27,bu 30 29,ag 8 30])
 (.aq [ag 31 6,ag 32 8,xS 33 31 32,ag 6 33])))
 (.aq [eg 34 27,ag 27 34])))
def Qa:aY:=
 .seq (.aq [gU 2])
 (.seq (.aq [dR 3])
 (.seq (.seq (.aq [ag 9 0,eh 10 9,dR 11])
 (.block 0 (.loop Em)))
 (.seq (.aq [ag 23 3,⟨some 24,.call 75 [(.c .bB),(.t 23)],none,[23]⟩,ag 6 24])
 (.seq (.seq (.aq [ag 25 0,eh 26 25,dR 27])
 (.block 2 (.loop En)))
 (.seq (.aq [ag 35 6,ag 2 35])
 (.ret))))))
theorem aaT:dN 47 36 Tryz.f47 Qa [.t 2]:=⟨Tryz.func47,by kernel_rfl⟩
def Qs:aY:=
 .seq (.aq [gU 4])
 (.seq (.seq (.aq [ag 5 1,DF 6 5])
 (.cond (.t 6)
 (.aq [⟨some 7,.sO 9 (.c (.str [99,97,110,110,111,116,32,98,101,32,110,101,103,97,116,105,118,101])),none,[]⟩,⟨none,.bad,none,[7]⟩])
 (.skip)))
 (.seq (.seq (.aq [ag 8 1,ag 9 0,⟨some 10,.tL (.t 9),none,[9]⟩,ag 11 0,eh 12 11,⟨some 13,.bin (.int .sub) (.t 10) (.t 12),none,[10,12]⟩,⟨some 14,.bin (.int .sub) (.t 8) (.t 13),none,[8,13]⟩,ag 1 14])
 (.seq (.aq [ag 15 1,DI 16 15])
 (.cond (.t 16)
 (.aq [ag 17 0,ag 18 0,⟨some 19,.tL (.t 18),none,[18]⟩,⟨some 20,.fY 4 (.t 17) none (some (.t 19)) none,none,[17,19]⟩,ag 21 1,⟨some 22,.x' 4 [(.int .i64 0),(.int .i64 0),(.str []),.bB] (.t 20) (.t 21),none,[20,21]⟩,ag 23 0,eh 24 23,⟨some 25,.fY 4 (.t 22) none (some (.t 24)) none,none,[22,24]⟩,ag 0 25])
 (.skip))))
 (.seq (.aq [ag 26 0,ag 4 26])
 (.ret))))
theorem aa8:dN 75 27 Tryz.f75 Qs [.t 4]:=⟨Tryz.func75,by kernel_rfl⟩
def Py:aY:=
 .block 1 (.seq (.aq [ag 24 5,bS 25 24,c7 26 25,bu 27 26,ag 7 27])
 (.seq (.block 2 (.seq (.aq [ag 37 7,ag 38 0,nR 39 38,AB 40 37 39,ag 36 40])
 (.cond (.t 36)
 (.exit 0)
 (.seq (.aq [ag 42 0,ag 43 7,DK 44 42 43,⟨some 45,.call 124 [(.c (.str [9,10,13,32])),(.t 44)],none,[44]⟩,DJ 46 45,ag 41 46])
 (.cond (.t 41)
 (.aq [ag 47 5,bS 48 47,c7 49 48,bu 50 49,eg 51 50,bS 52 47,c7 53 52,⟨none,.st 1 (.t 53) (.t 51),none,[53,51]⟩])
 (.seq (.aq [ag 55 5,⟨some 56,.call 125 [(.t 55),(.c (.str [40,42]))],none,[55]⟩,ag 54 56])
 (.cond (.t 54)
 (.aq [ag 57 5,⟨some 58,.call 126 [(.t 57)],none,[57]⟩])
 (.seq (.aq [ag 28 5,⟨some 29,.call 127 [(.t 28)],none,[28]⟩,AD 8,⟨none,.st 4 (.t 8) (.t 29),none,[8,29]⟩])
 (.seq (.aq [ag 30 7,hT 31 8,⟨none,.st 1 (.t 31) (.t 30),none,[31,30]⟩])
 (.aq [ag 32 6,fQ 33 8,⟨some 34,.il 1 4 [(.int .i64 0),(.int .i64 0),(.int .i64 0),(.str [])] [(0,4,(.t 33))],none,[33]⟩,xS 35 32 34,ag 6 35]))))))))))
 (.seq (.aq [ag 59 5,bS 60 59,hT 61 60,bu 62 61,HG 63 62])
 (.cond (.t 63)
 (.seq (.draw [ag 64 5,bS 65 64,hT 66 65,bu 67 66,ag 68 7,⟨some 69,.build [(.int .i64 0),(.int .i64 0)] [(0,1,(.t 67)),(1,1,(.t 68))],none,[67,68]⟩,gU 2,⟨none,.st 2 (.t 3) (.t 69),none,[3,69]⟩] [(3,[7])])
 (.ret))
 (.skip)))))
def Px:aY:=
 .seq (.aq [gU 2,⟨some 3,.new [(.int .i64 0),(.int .i64 0)],none,[]⟩])
 (.seq (.seq (.aq [ag 9 0,nR 10 9,⟨some 11,.bin (.int .gtr) (.t 10) (.c (.int .i64 65536)),none,[10]⟩])
 (.cond (.t 11)
 (.seq (.aq [⟨some 12,.build [(.int .i64 0),(.int .i64 0)] [(0,1,(.c (.int .i64 3)))],none,[]⟩,gU 2,⟨none,.st 2 (.t 3) (.t 12),none,[3,12]⟩])
 (.ret))
 (.skip)))
 (.seq (.seq (.aq [ag 13 0,⟨some 14,.call 123 [(.t 13)],none,[13]⟩,ag 4 14])
 (.seq (.aq [ag 15 4,ag 16 0,nR 17 16,fP 18 15 17])
 (.cond (.t 18)
 (.seq (.aq [ag 19 4,⟨some 20,.build [(.int .i64 0),(.int .i64 0)] [(0,1,(.c (.int .i64 250))),(1,1,(.t 19))],none,[19]⟩,gU 2,⟨none,.st 2 (.t 3) (.t 20),none,[3,20]⟩])
 (.ret))
 (.skip))))
 (.seq (.aq [ag 21 0,⟨some 22,.build [(.str []),(.int .i64 0),(.int .i64 0)] [(0,1,(.t 21))],none,[21]⟩,jD 23 22,ag 5 23])
 (.seq (.aq [gU 6])
 (.seq (.skip)
 (.seq (.block 0 (.loop Py))
 (.seq (.aq [ag 70 6,⟨some 71,.build [(.int .i64 0),(.int .i64 0)] [],none,[]⟩,ag 2 70,⟨none,.st 2 (.t 3) (.t 71),none,[3,71]⟩])
 (.ret))))))))
theorem aah:dN 104 72 Tryz.f104 Px [.t 2,.sg 3 2]:=⟨Tryz.func104,by kernel_rfl⟩
def PF:aY:=
 .seq (.aq [⟨some 9,.zD (.t 8),none,[8]⟩,lA 10 9])
 (.seq (.cond (.t 10)
 (.skip)
 (.exit 0))
 (.block 1 (.seq (.aq [kD 11 9,⟨some 12,.ext (.t 9) 2,none,[9]⟩,ag 3 11,ag 4 12])
 (.seq (.aq [ag 13 4,⟨some 14,.bin (.int .eql) (.t 13) (.c (.int .i32 65533)),none,[13]⟩])
 (.cond (.t 14)
 (.seq (.aq [ag 16 0,ag 17 3,HQ 18 16 17,⟨some 19,.call 137 [(.t 18)],none,[18]⟩,ag 15 19,lA 20 15,kD 21 15,ag 5 20,ag 6 21])
 (.seq (.aq [ag 22 6,qJ 23 22])
 (.cond (.t 23)
 (.seq (.aq [ag 24 3,ag 2 24])
 (.ret))
 (.skip))))
 (.skip))))))
def PE:aY:=
 .seq (.aq [dR 2])
 (.seq (.seq (.aq [ag 7 0,⟨some 8,.zV (.t 7),none,[7]⟩])
 (.block 0 (.loop PF)))
 (.seq (.aq [ag 25 0,nR 26 25,ag 2 26])
 (.ret)))
theorem aam:dN 123 27 Tryz.f123 PE [.t 2]:=⟨Tryz.func123,by kernel_rfl⟩
def PG:aY:=
 .seq (.aq [dR 4])
 (.seq (.aq [ag 5 0,ag 6 1,⟨some 7,.call 138 [(.t 5),(.t 6)],none,[5,6]⟩,ag 4 7])
 (.ret))
theorem aan:dN 124 8 Tryz.f124 PG [.t 4]:=⟨Tryz.func124,by kernel_rfl⟩
def PH:aY:=
 .seq (.aq [fp 4])
 (.seq (.draw [ag 5 0,bS 6 5,dh 7 6,bu 8 7,ag 9 0,bS 10 9,c7 11 10,bu 12 11,HQ 13 8 12,ag 14 1,⟨some 15,.call 139 [(.t 13),(.t 14)],none,[13,14]⟩,ag 4 15] [(3,[10]),(7,[10])])
 (.ret))
theorem aao:dN 125 16 Tryz.f125 PH [.t 4]:=⟨Tryz.func125,by kernel_rfl⟩
def PJ:aY:=
 .block 1 (.block 2 (.seq (.draw [ag 11 0,bS 12 11,c7 13 12,bu 14 13,ag 15 0,bS 16 15,dh 17 16,bu 18 17,nR 19 18,AB 20 14 19,ag 10 20] [])
 (.cond (.t 10)
 (.seq (.aq [ag 21 0,bS 22 21,hT 23 22,⟨none,.st 1 (.t 23) (.c (.int .i64 253)),none,[23]⟩])
 (.ret))
 (.seq (.aq [ag 25 0,⟨some 26,.call 125 [(.t 25),(.c (.str [40,42]))],none,[25]⟩,ag 24 26])
 (.cond (.t 24)
 (.seq (.aq [ag 27 2,eg 28 27,ag 2 28])
 (.aq [ag 29 0,bS 30 29,c7 31 30,bu 32 31,⟨some 33,.bin (.int .add) (.t 32) (.c (.int .i64 2)),none,[32]⟩,bS 34 29,c7 35 34,⟨none,.st 1 (.t 35) (.t 33),none,[35,33]⟩]))
 (.seq (.aq [ag 37 0,⟨some 38,.call 125 [(.t 37),(.c (.str [42,41]))],none,[37]⟩,ag 36 38])
 (.cond (.t 36)
 (.seq (.aq [ag 39 2,HK 40 39,ag 2 40])
 (.seq (.aq [ag 41 0,bS 42 41,c7 43 42,bu 44 43,⟨some 45,.bin (.int .add) (.t 44) (.c (.int .i64 2)),none,[44]⟩,bS 46 41,c7 47 46,⟨none,.st 1 (.t 47) (.t 45),none,[47,45]⟩])
 (.seq (.aq [ag 48 2,AA 49 48])
 (.cond (.t 49)
 (.ret)
 (.skip)))))
 (.aq [ag 3 0,bS 4 3,c7 5 4,bu 6 5,eg 7 6,bS 8 3,c7 9 8,⟨none,.st 1 (.t 9) (.t 7),none,[9,7]⟩]))))))))
def PI:aY:=
 .seq (.aq [dR 2])
 (.block 0 (.loop PJ))
theorem aap:dN 126 50 Tryz.f126 PI []:=⟨Tryz.func126,by kernel_rfl⟩
def PL:aY:=
 .seq (.aq [fP 80 79 78])
 (.seq (.cond (.t 80)
 (.skip)
 (.exit 1))
 (.seq (.block 2 (.seq (.aq [iC 81 77 79,bu 82 81,ag 5 82])
 (.seq (.aq [ag 83 0,ag 84 5,⟨some 85,.call 125 [(.t 83),(.t 84)],none,[83,84]⟩])
 (.cond (.t 85)
 (.seq (.aq [ag 86 0,bS 87 86,c7 88 87,bu 89 88,ag 90 5,nR 91 90,xV 92 89 91,bS 93 86,c7 94 93,⟨none,.st 1 (.t 94) (.t 92),none,[94,92]⟩])
 (.seq (.aq [ag 95 5,Oa 96 95,⟨none,.st 4 (.t 2) (.t 96),none,[2,96]⟩])
 (.ret)))
 (.skip)))))
 (.aq [eg 97 79,ag 79 97])))
def PK:aY:=
 .seq (.aq [AD 2])
 (.seq (.draw [ag 6 0,bS 7 6,dh 8 7,bu 9 8,ag 10 0,bS 11 10,c7 12 11,bu 13 12,DK 14 9 13,ag 3 14] [])
 (.seq (.block 0 (.seq (.aq [ag 16 3,⟨some 17,.call 140 [(.t 16)],none,[16]⟩,ag 15 17])
 (.cond (.t 15)
 (.seq (.aq [ag 18 0,⟨some 19,.call 141 [(.t 18)],none,[18]⟩,⟨none,.st 4 (.t 2) (.t 19),none,[2,19]⟩])
 (.ret))
 (.seq (.aq [ag 21 3,⟨some 22,.bin (.int .eql) (.t 21) (.c (.int .u8 34)),none,[21]⟩,ag 20 22])
 (.cond (.t 20)
 (.seq (.aq [ag 23 0,⟨some 24,.call 142 [(.t 23)],none,[23]⟩,⟨none,.st 4 (.t 2) (.t 24),none,[2,24]⟩])
 (.ret))
 (.seq (.aq [ag 26 3,⟨some 27,.call 143 [(.t 26)],none,[26]⟩,ag 28 27,gT 29 3 28,DM 30 29 28,hv 31 28 30,ag 25 31])
 (.cond (.t 25)
 (.seq (.aq [ag 32 0,⟨some 33,.call 144 [(.t 32),(.c (.int .i64 3))],none,[32]⟩,⟨none,.st 4 (.t 2) (.t 33),none,[2,33]⟩])
 (.ret))
 (.seq (.aq [ag 35 3,⟨some 36,.call 145 [(.t 35)],none,[35]⟩,ag 34 36])
 (.cond (.t 34)
 (.seq (.aq [ag 37 0,⟨some 38,.call 144 [(.t 37),(.c (.int .i64 4))],none,[37]⟩,⟨none,.st 4 (.t 2) (.t 38),none,[2,38]⟩])
 (.ret))
 (.seq (.draw [ag 40 3,⟨some 41,.bin (.int .eql) (.t 40) (.c (.int .u8 39)),none,[40]⟩,ag 42 41,en 43 0 42,rV 44 43 42,rX 45 44 42,gz 46 45 42,⟨some 47,.bin (.int .add) (.t 46) (.c (.int .i64 1)),(some (42,true)),[46,42]⟩,en 48 0 42,rV 49 48 42,tu 50 49 42,gz 51 50 42,⟨some 52,.len .str (.t 51),(some (42,true)),[51,42]⟩,HL 53 47 52 42,eD 54 42 53,ag 55 54,en 56 0 55,rV 57 56 55,tu 58 57 55,gz 59 58 55,en 60 0 55,rV 61 60 55,rX 62 61 55,gz 63 62 55,⟨some 64,.bin (.int .add) (.t 63) (.c (.int .i64 1)),(some (55,true)),[63,55]⟩,⟨some 65,.mA (.t 59) (.t 64),(some (55,true)),[59,64,55]⟩,⟨some 66,.call 143 [(.t 65)],(some (55,true)),[65,55]⟩,eD 67 55 66,ag 39 67] [(6,[26]),(11,[26]),(19,[26]),(23,[26])])
 (.cond (.t 39)
 (.seq (.aq [ag 68 0,bS 69 68,c7 70 69,bu 71 70,eg 72 71,bS 73 68,c7 74 73,⟨none,.st 1 (.t 74) (.t 72),none,[74,72]⟩])
 (.seq (.aq [ag 75 0,⟨some 76,.call 144 [(.t 75),(.c (.int .i64 5))],none,[75]⟩,⟨none,.st 4 (.t 2) (.t 76),none,[2,76]⟩])
 (.ret)))
 (.skip))))))))))))
 (.seq (.seq (.aq [⟨some 77,.call 146 [],none,[]⟩,eh 78 77,dR 79])
 (.block 1 (.loop PL)))
 (.seq (.aq [ag 98 0,bS 99 98,hT 100 99,⟨none,.st 1 (.t 100) (.c (.int .i64 251)),none,[100]⟩])
 (.seq (.aq [HR 101,⟨none,.st 4 (.t 2) (.t 101),none,[2,101]⟩])
 (.ret))))))
theorem aaq:dN 127 102 Tryz.f127 PK [.sg 2 4]:=⟨Tryz.func127,by kernel_rfl⟩
def c138:aY:=
 .seq (.aq [dR 4])
 (.seq (.aq [ag 5 0,ag 6 1,⟨some 7,.call 153 [(.t 5),(.t 6)],none,[5,6]⟩,ag 4 7])
 (.ret))
theorem aar:dN 138 8 Tryz.f138 c138 [.t 4]:=⟨Tryz.func138,by kernel_rfl⟩
def PN:aY:=
 .seq (.aq [fp 4])
 (.seq (.aq [ag 5 0,ag 6 1,⟨some 7,.call 154 [(.t 5),(.t 6)],none,[5,6]⟩,ag 4 7])
 (.ret))
theorem aas:dN 139 8 Tryz.f139 PN [.t 4]:=⟨Tryz.func139,by kernel_rfl⟩
def PQ:aY:=
 .seq (.aq [fp 2])
 (.seq (.aq [ag 3 0,⟨some 4,.bin (.int .geq) (.t 3) (.c (.int .u8 48)),none,[3]⟩,ag 5 4,en 6 0 5,⟨some 7,.bin (.int .leq) (.t 6) (.c (.int .u8 57)),(some (5,true)),[6,5]⟩,eD 8 5 7,ag 2 8])
 (.ret))
theorem aav:dN 140 9 Tryz.f140 PQ [.t 2]:=⟨Tryz.func140,by kernel_rfl⟩
def PR:aY:=
 .seq (.aq [AD 2])
 (.seq (.aq [ag 7 0,⟨some 8,.call 156 [(.t 7),(.c (.func 140 []))],none,[7]⟩,⟨some 9,.call 155 [(.t 8),(.c (.int .i64 10)),(.c (.int .i64 64))],none,[8]⟩,ag 6 9,lA 10 6,kD 11 6,ag 3 10,ag 4 11])
 (.seq (.seq (.aq [ag 12 4,⟨some 13,.bin (.jL true 5) (.t 12) (.c .nilIface),none,[12]⟩,ag 14 13,gT 15 3 14,⟨some 16,.bin (.int .gtr) (.t 15) (.c (.int .u64 2147483647)),(some (14,false)),[15,14]⟩,hv 17 14 16])
 (.cond (.t 17)
 (.seq (.aq [ag 18 0,bS 19 18,hT 20 19,⟨none,.st 1 (.t 20) (.c (.int .i64 254)),none,[20]⟩])
 (.seq (.aq [HR 21,⟨none,.st 4 (.t 2) (.t 21),none,[2,21]⟩])
 (.ret)))
 (.skip)))
 (.seq (.aq [ag 22 3,⟨some 23,.km (.int .i64) (.t 22),none,[22]⟩,ag 5 23])
 (.seq (.seq (.aq [ag 24 5,⟨some 25,.bin (.int .gtr) (.t 24) (.c (.int .i64 1073741823)),none,[24]⟩])
 (.cond (.t 25)
 (.aq [ag 26 5,⟨some 27,.bin (.int .sub) (.t 26) (.c (.int .i64 2147483648)),none,[26]⟩,ag 5 27])
 (.skip)))
 (.seq (.aq [ag 28 5,⟨some 29,.build [(.int .i64 0),(.int .i64 0),(.int .i64 0),(.str [])] [(0,1,(.c (.int .i64 1))),(1,1,(.t 28))],none,[28]⟩,⟨none,.st 4 (.t 2) (.t 29),none,[2,29]⟩])
 (.ret))))))
theorem aaw:dN 141 30 Tryz.f141 PR [.sg 2 4]:=⟨Tryz.func141,by kernel_rfl⟩
def PT:aY:=
 .seq (.seq (.aq [ag 12 0,bS 13 12,hT 14 13,bu 15 14,AA 16 15])
 (.cond (.t 16)
 (.skip)
 (.exit 0)))
 (.block 1 (.seq (.seq (.draw [ag 17 0,bS 18 17,c7 19 18,bu 20 19,ag 21 0,bS 22 21,dh 23 22,bu 24 23,nR 25 24,AB 26 20 25] [])
 (.cond (.t 26)
 (.seq (.aq [ag 27 0,bS 28 27,hT 29 28,⟨none,.st 1 (.t 29) (.c (.int .i64 252)),none,[29]⟩])
 (.exit 0))
 (.skip)))
 (.seq (.draw [ag 30 0,bS 31 30,dh 32 31,bu 33 32,ag 34 0,bS 35 34,c7 36 35,bu 37 36,DK 38 33 37,ag 4 38] [])
 (.block 2 (.seq (.aq [ag 51 4,⟨some 52,.bin (.int .eql) (.t 51) (.c (.int .u8 34)),none,[51]⟩,ag 50 52])
 (.cond (.t 50)
 (.seq (.aq [ag 53 0,bS 54 53,c7 55 54,bu 56 55,eg 57 56,bS 58 53,c7 59 58,⟨none,.st 1 (.t 59) (.t 57),none,[59,57]⟩])
 (.seq (.seq (.aq [ag 60 3,eh 61 60,Ax 62 61])
 (.cond (.t 62)
 (.aq [ag 63 0,bS 64 63,hT 65 64,⟨none,.st 1 (.t 65) (.c (.int .i64 255)),none,[65]⟩])
 (.skip)))
 (.seq (.aq [ag 66 3,⟨some 67,.km .str (.t 66),none,[66]⟩,⟨some 68,.build [(.int .i64 0),(.int .i64 0),(.int .i64 0),(.str [])] [(0,1,(.c (.int .i64 2))),(3,1,(.t 67))],none,[67]⟩,⟨none,.st 4 (.t 2) (.t 68),none,[2,68]⟩])
 (.ret))))
 (.seq (.aq [ag 70 4,⟨some 71,.bin (.int .eql) (.t 70) (.c (.int .u8 92)),none,[70]⟩,ag 69 71])
 (.cond (.t 69)
 (.aq [ag 72 3,ag 73 0,⟨some 74,.call 157 [(.t 73)],none,[73]⟩,⟨some 75,.il 1 1 [(.int .u8 0)] [(0,1,(.t 74))],none,[74]⟩,Ay 76 72 75,ag 3 76])
 (.seq (.aq [ag 78 4,⟨some 79,.bin (.int .lss) (.t 78) (.c (.int .u8 32)),none,[78]⟩,ag 80 79,gT 81 4 80,⟨some 82,.bin (.int .eql) (.t 81) (.c (.int .u8 127)),(some (80,false)),[81,80]⟩,hv 83 80 82,ag 77 83])
 (.cond (.t 77)
 (.aq [ag 84 0,bS 85 84,hT 86 85,⟨none,.st 1 (.t 86) (.c (.int .i64 252)),none,[86]⟩])
 (.seq (.aq [ag 39 0,bS 40 39,c7 41 40,bu 42 41,eg 43 42,bS 44 39,c7 45 44,⟨none,.st 1 (.t 45) (.t 43),none,[45,43]⟩])
 (.aq [ag 46 3,ag 47 4,⟨some 48,.il 1 1 [(.int .u8 0)] [(0,1,(.t 47))],none,[47]⟩,Ay 49 46 48,ag 3 49]))))))))))))
def PS:aY:=
 .seq (.aq [AD 2])
 (.seq (.aq [ag 5 0,bS 6 5,c7 7 6,bu 8 7,eg 9 8,bS 10 5,c7 11 10,⟨none,.st 1 (.t 11) (.t 9),none,[11,9]⟩])
 (.seq (.aq [gU 3])
 (.seq (.block 0 (.loop PT))
 (.seq (.aq [HR 87,⟨none,.st 4 (.t 2) (.t 87),none,[2,87]⟩])
 (.ret)))))
theorem aax:dN 142 88 Tryz.f142 PS [.sg 2 4]:=⟨Tryz.func142,by kernel_rfl⟩
def PU:aY:=
 .seq (.aq [fp 2])
 (.seq (.aq [ag 3 0,⟨some 4,.bin (.int .geq) (.t 3) (.c (.int .u8 97)),none,[3]⟩,ag 5 4,en 6 0 5,⟨some 7,.bin (.int .leq) (.t 6) (.c (.int .u8 122)),(some (5,true)),[6,5]⟩,eD 8 5 7,ag 2 8])
 (.ret))
theorem aay:dN 143 9 Tryz.f143 PU [.t 2]:=⟨Tryz.func143,by kernel_rfl⟩
def PV:aY:=
 .seq (.aq [AD 4])
 (.seq (.aq [ag 6 0,⟨some 7,.call 156 [(.t 6),(.c (.func 158 []))],none,[6]⟩,ag 5 7])
 (.seq (.block 0 (.seq (.aq [ag 9 1,⟨some 10,.bin (.int .eql) (.t 9) (.c (.int .i64 3)),none,[9]⟩,ag 11 10,en 12 5 11,⟨some 13,.bin (.str .eql) (.t 12) (.c (.str [95])),(some (11,true)),[12,11]⟩,eD 14 11 13,ag 8 14])
 (.cond (.t 8)
 (.seq (.aq [ag 15 5,Oa 16 15,⟨none,.st 4 (.t 4) (.t 16),none,[4,16]⟩])
 (.ret))
 (.seq (.aq [ag 18 1,⟨some 19,.bin (.int .eql) (.t 18) (.c (.int .i64 3)),none,[18]⟩,ag 20 19,en 21 5 20,⟨some 22,.bin (.str .add) (.c (.str [32])) (.t 21),(some (20,true)),[21,20]⟩,⟨some 23,.bin (.str .add) (.t 22) (.c (.str [32])),(some (20,true)),[22,20]⟩,⟨some 24,.call 159 [(.c (.str [32,97,110,100,32,98,101,103,105,110,32,101,108,115,101,32,101,110,100,32,101,120,99,101,112,116,105,111,110,32,102,97,108,115,101,32,102,117,110,32,105,102,32,105,110,32,108,101,116,32,109,97,116,99,104,32,109,111,100,32,111,102,32,114,97,105,115,101,32,114,101,99,32,116,104,101,110,32,116,114,117,101,32,116,114,121,32,116,121,112,101,32,119,105,116,104,32])),(.t 23)],(some (20,true)),[23,20]⟩,eD 25 20 24,ag 17 25])
 (.cond (.t 17)
 (.seq (.aq [ag 26 5,⟨some 27,.build [(.int .i64 0),(.int .i64 0),(.int .i64 0),(.str [])] [(0,1,(.c (.int .i64 6))),(3,1,(.t 26))],none,[26]⟩,⟨none,.st 4 (.t 4) (.t 27),none,[4,27]⟩])
 (.ret))
 (.seq (.aq [ag 29 5,nR 30 29,⟨some 31,.bin (.int .gtr) (.t 30) (.c (.int .i64 64)),none,[30]⟩,ag 28 31])
 (.cond (.t 28)
 (.aq [ag 32 0,bS 33 32,hT 34 33,⟨none,.st 1 (.t 34) (.c (.int .i64 255)),none,[34]⟩])
 (.skip))))))))
 (.seq (.aq [ag 35 1,ag 36 5,⟨some 37,.build [(.int .i64 0),(.int .i64 0),(.int .i64 0),(.str [])] [(0,1,(.t 35)),(3,1,(.t 36))],none,[35,36]⟩,⟨none,.st 4 (.t 4) (.t 37),none,[4,37]⟩])
 (.ret))))
theorem aaz:dN 144 38 Tryz.f144 PV [.sg 4 4]:=⟨Tryz.func144,by kernel_rfl⟩
def PW:aY:=
 .seq (.aq [fp 2])
 (.seq (.aq [ag 3 0,⟨some 4,.bin (.int .geq) (.t 3) (.c (.int .u8 65)),none,[3]⟩,ag 5 4,en 6 0 5,⟨some 7,.bin (.int .leq) (.t 6) (.c (.int .u8 90)),(some (5,true)),[6,5]⟩,eD 8 5 7,ag 2 8])
 (.ret))
theorem aaA:dN 145 9 Tryz.f145 PW [.t 2]:=⟨Tryz.func145,by kernel_rfl⟩
def PX:aY:=
 .seq (.aq [gU 0])
 (.seq (.aq [⟨some 1,.il 17 1 [(.str [])] [(0,1,(.c (.str [59,59]))),(1,1,(.c (.str [58,61]))),(2,1,(.c (.str [45,62]))),(3,1,(.c (.str [60,61]))),(4,1,(.c (.str [59]))),(5,1,(.c (.str [40]))),(6,1,(.c (.str [41]))),(7,1,(.c (.str [44]))),(8,1,(.c (.str [61]))),(9,1,(.c (.str [60]))),(10,1,(.c (.str [43]))),(11,1,(.c (.str [45]))),(12,1,(.c (.str [42]))),(13,1,(.c (.str [47]))),(14,1,(.c (.str [124]))),(15,1,(.c (.str [33]))),(16,1,(.c (.str [95])))],none,[]⟩,ag 0 1])
 (.ret))
theorem aaB:dN 146 2 Tryz.f146 PX [.t 0]:=⟨Tryz.func146,by kernel_rfl⟩
def P0:aY:=
 .seq (.aq [fp 4])
 (.seq (.aq [ag 5 0,nR 6 5,ag 7 1,nR 8 7,AB 9 6 8,ag 10 9,en 11 0 10,en 12 1 10,⟨some 13,.len .str (.t 12),(some (10,true)),[12,10]⟩,⟨some 14,.rL (.t 11) none (some (.t 13)) none,(some (10,true)),[11,13,10]⟩,en 15 1 10,HJ 16 14 15 10,eD 17 10 16,ag 4 17])
 (.ret))
theorem aaD:dN 154 18 Tryz.f154 P0 [.t 4]:=⟨Tryz.func154,by kernel_rfl⟩
def P2:aY:=
 .seq (.seq (.draw [ag 10 0,bS 11 10,c7 12 11,bu 13 12,ag 14 0,bS 15 14,dh 16 15,bu 17 16,nR 18 17,fP 19 13 18,ag 20 19,en 21 1 20,en 22 0 20,rV 23 22 20,tu 24 23 20,gz 25 24 20,en 26 0 20,rV 27 26 20,rX 28 27 20,gz 29 28 20,⟨some 30,.mA (.t 25) (.t 29),(some (20,true)),[25,29,20]⟩,⟨some 31,.o1 (.t 21) [(.t 30)],(some (20,true)),[21,30,20]⟩,eD 32 20 31] [(3,[21]),(7,[21]),(15,[21]),(19,[21])])
 (.cond (.t 32)
 (.skip)
 (.exit 0)))
 (.block 1 (.aq [ag 33 0,bS 34 33,c7 35 34,bu 36 35,eg 37 36,bS 38 33,c7 39 38,⟨none,.st 1 (.t 39) (.t 37),none,[39,37]⟩]))
def P1:aY:=
 .seq (.aq [⟨some 4,.b0 (.c (.str [])),none,[]⟩])
 (.seq (.aq [ag 6 0,bS 7 6,c7 8 7,bu 9 8,ag 5 9])
 (.seq (.block 0 (.loop P2))
 (.seq (.draw [ag 40 0,bS 41 40,dh 42 41,bu 43 42,ag 44 5,ag 45 0,bS 46 45,c7 47 46,bu 48 47,⟨some 49,.rL (.t 43) (some (.t 44)) (some (.t 48)) none,none,[43,44,48]⟩,ag 4 49] [])
 (.ret))))
theorem aaE:dN 156 50 Tryz.f156 P1 [.t 4]:=⟨Tryz.func156,by kernel_rfl⟩
def P3:aY:=
 .seq (.aq [⟨some 2,.b0 (.c (.int .u8 0)),none,[]⟩])
 (.seq (.aq [ag 7 0,bS 8 7,c7 9 8,bu 10 9,eg 11 10,bS 12 7,c7 13 12,⟨none,.st 1 (.t 13) (.t 11),none,[13,11]⟩])
 (.seq (.draw [ag 14 0,bS 15 14,dh 16 15,bu 17 16,ag 18 0,bS 19 18,c7 20 19,bu 21 20,HQ 22 17 21,ag 3 22] [])
 (.seq (.seq (.aq [ag 23 3,⟨some 24,.bin (.str .neq) (.t 23) (.c (.str [])),none,[23]⟩])
 (.cond (.t 24)
 (.seq (.aq [ag 25 3,DL 26 25,⟨some 27,.call 124 [(.c (.str [110,116,34,92])),(.t 26)],none,[26]⟩,ag 4 27])
 (.seq (.aq [ag 28 4,DJ 29 28])
 (.cond (.t 29)
 (.seq (.aq [ag 30 0,bS 31 30,c7 32 31,bu 33 32,eg 34 33,bS 35 30,c7 36 35,⟨none,.st 1 (.t 36) (.t 34),none,[36,34]⟩])
 (.seq (.aq [ag 37 4,⟨some 38,.mA (.c (.str [10,9,34,92])) (.t 37),none,[37]⟩,ag 2 38])
 (.ret)))
 (.skip))))
 (.skip)))
 (.seq (.seq (.aq [ag 39 3,nR 40 39,⟨some 41,.bin (.int .geq) (.t 40) (.c (.int .i64 3)),none,[40]⟩,ag 42 41,en 43 3 42,⟨some 44,.mA (.t 43) (.c (.int .i64 0)),(some (42,true)),[43,42]⟩,⟨some 45,.call 140 [(.t 44)],(some (42,true)),[44,42]⟩,eD 46 42 45,ag 47 46,en 48 3 47,⟨some 49,.mA (.t 48) (.c (.int .i64 1)),(some (47,true)),[48,47]⟩,⟨some 50,.call 140 [(.t 49)],(some (47,true)),[49,47]⟩,eD 51 47 50,ag 52 51,en 53 3 52,⟨some 54,.mA (.t 53) (.c (.int .i64 2)),(some (52,true)),[53,52]⟩,⟨some 55,.call 140 [(.t 54)],(some (52,true)),[54,52]⟩,eD 56 52 55])
 (.cond (.t 56)
 (.seq (.aq [ag 58 3,⟨some 59,.rL (.t 58) none (some (.c (.int .i64 3))) none,none,[58]⟩,⟨some 60,.call 166 [(.t 59)],none,[59]⟩,ag 57 60,lA 61 57,kD 62 57,ag 5 61,ag 6 62])
 (.seq (.aq [ag 63 5,⟨some 64,.bin (.int .lss) (.t 63) (.c (.int .i64 256)),none,[63]⟩])
 (.cond (.t 64)
 (.seq (.aq [ag 65 0,bS 66 65,c7 67 66,bu 68 67,⟨some 69,.bin (.int .add) (.t 68) (.c (.int .i64 3)),none,[68]⟩,bS 70 65,c7 71 70,⟨none,.st 1 (.t 71) (.t 69),none,[71,69]⟩])
 (.seq (.aq [ag 72 5,⟨some 73,.km (.int .u8) (.t 72),none,[72]⟩,ag 2 73])
 (.ret)))
 (.skip))))
 (.skip)))
 (.seq (.aq [ag 74 0,bS 75 74,hT 76 75,⟨none,.st 1 (.t 76) (.c (.int .i64 252)),none,[76]⟩])
 (.seq (.aq [⟨some 2,.b0 (.c (.int .u8 0)),none,[]⟩])
 (.ret)))))))
theorem aaF:dN 157 77 Tryz.f157 P3 [.t 2]:=⟨Tryz.func157,by kernel_rfl⟩
def P4:aY:=
 .seq (.aq [fp 2])
 (.seq (.aq [ag 3 0,⟨some 4,.call 140 [(.t 3)],none,[3]⟩,ag 5 4,gT 6 0 5,⟨some 7,.call 143 [(.t 6)],(some (5,false)),[6,5]⟩,hv 8 5 7,ag 9 8,gT 10 0 9,⟨some 11,.call 145 [(.t 10)],(some (9,false)),[10,9]⟩,hv 12 9 11,ag 13 12,gT 14 0 13,DM 15 14 13,hv 16 13 15,ag 17 16,gT 18 0 17,⟨some 19,.bin (.int .eql) (.t 18) (.c (.int .u8 39)),(some (17,false)),[18,17]⟩,hv 20 17 19,ag 2 20])
 (.ret))
theorem aaG:dN 158 21 Tryz.f158 P4 [.t 2]:=⟨Tryz.func158,by kernel_rfl⟩
theorem pz {f:FuncId} {args:List V} {h:ah} {v:V} (c:de Tryz.prog f args h fun x ab=>x=v/\ab=h):gu Tryz.prog f args h v h:=by obtain ⟨x,ab,q,rfl,rfl⟩:=c;exact q
def na (c:Int):Bool:=decide (48<=c)&&decide (c<=57)
def hH (c:Int):Bool:=decide (97<=c)&&decide (c<=122)
def nf (c:Int):Bool:=decide (65<=c)&&decide (c<=90)
def uz (c:Int):Bool:=na c||hH c||nf c||decide (c=95)||decide (c=39)
def nM (c a b:Int):Bool:=decide (a<=c)&&decide (c<=b)
theorem yi (c:Int) (h:ah):gu Tryz.prog 140 [.int .u8 c] h (.bool (na c)) h:=by refine pz (aav.z rfl (dM ?_));unfold PQ;simp +contextual only [↓al,aG,simprocAttr];rfl
theorem G4 (c:Int) (h:ah):gu Tryz.prog 143 [.int .u8 c] h (.bool (hH c)) h:=by refine pz (aay.z rfl (dM ?_));unfold PU;simp +contextual only [↓al,aG,simprocAttr];rfl
theorem R8 (c:Int) (h:ah):gu Tryz.prog 145 [.int .u8 c] h (.bool (nf c)) h:=by refine pz (aaA.z rfl (dM ?_));unfold PW;simp +contextual only [↓al,aG,simprocAttr];rfl
theorem Ae (c a b:Int) (h:ah):gu Tryz.prog 106 [.int .u8 c,.int .u8 a,.int .u8 b] h (.bool (nM c a b)) h:=by refine pz (aaj.z rfl (dM ?_));unfold PA;simp +contextual only [↓al,aG,simprocAttr];rfl
theorem aeg (s p:List UInt8) (h:ah):gu Tryz.prog 154 [.str s,.str p] h (.bool (p.isPrefixOf s)) h:=by
 refine pz (aaD.z rfl (dM ?_));unfold P0;have aW:(0<=(p.length:Int))=True:=eq_true (by omega);by_cases aA:p.length<=s.length
 . have aa:((p.length:Int)<=(s.length:Int))=True:=eq_true (by omega);simp +contextual only [aW,aa,Int.toNat_natCast,↓al,aG,simprocAttr];rw [Bool.eq_iff_iff,decide_eq_true_eq,List.isPrefixOf_iff_prefix,List.prefix_iff_eq_take];exact ⟨fun e=>e.symm,fun e=>e.symm⟩
 . have aa:((p.length:Int)<=(s.length:Int))=False:=eq_false (by omega);simp +contextual only [aW,aa,Int.toNat_natCast,↓al,aG,simprocAttr];rw [eq_comm,<-Bool.not_eq_true,List.isPrefixOf_iff_prefix];exact fun e=>aA e.length_le
theorem aef (s p:List UInt8) (h:ah):gu Tryz.prog 139 [.str s,.str p] h (.bool (p.isPrefixOf s)) h:=by refine pz (aas.z rfl (dM ?_));unfold PN;simp +contextual only [↓al,aG,simprocAttr];refine gL (aeg s p h) ?_;simp +contextual only [↓al,aG,simprocAttr]
theorem ajK (c:Int) (h:ah):gu Tryz.prog 158 [.int .u8 c] h (.bool (uz c)) h:=by refine pz (aaG.z rfl (dM ?_));unfold P4;simp +contextual only [↓al,aG,simprocAttr];refine gL (yi c h) ?_;simp +contextual only [↓al,aG,simprocAttr];refine EV (.bool (hH c)) (fun aD=>by simp only [aD,↓al,aG,simprocAttr];exact G4 _ _) ?_;simp +contextual only [↓al,aG,simprocAttr];refine EV (.bool (nf c)) (fun aD=>by simp only [aD,↓al,aG,simprocAttr];exact R8 _ _) ?_;simp +contextual only [↓al,aG,simprocAttr];rfl
theorem Ym (c:Int) (h:ah):gu Tryz.prog 105 [.int .u8 c] h (.bool (nM c 97 122||nM c 65 90||nM c 48 57||decide (c=95)||decide (c=39))) h:=by refine pz (aai.z rfl (dM ?_));unfold Pz;simp +contextual only [↓al,aG,simprocAttr];refine gL (Ae c _ _ h) ?_;simp +contextual only [↓al,aG,simprocAttr];refine EV (.bool (nM c 65 90)) (fun aD=>by simp only [aD,↓al,aG,simprocAttr];exact Ae _ _ _ _) ?_;simp +contextual only [↓al,aG,simprocAttr];refine EV (.bool (nM c 48 57)) (fun aD=>by simp only [aD,↓al,aG,simprocAttr];exact Ae _ _ _ _) ?_;simp +contextual only [↓al,aG,simprocAttr]
theorem JU (s p:List UInt8) (at':Int) (rest:List V) (b:aQ) (cQ:Nat) (st:Bool) (h:ah) (ae:h.get b=.bE (.str s::.int .i64 at'::rest) cQ st) (aW:0<=at') (aa:at'<=s.length):
 gu Tryz.prog 125 [.ptr b 0,.str p] h (.bool (p.isPrefixOf (s.drop at'.toNat))) h:=by
 refine pz (aao.z rfl (dM ?_));unfold PH;have f0:(0<=at')=True:=eq_true aW;have f1:(at'<=(s.length:Int))=True:=eq_true aa;simp +contextual only [ae,f0,f1,↓al,aG,simprocAttr];refine gL (aef _ p h) ?_;simp +contextual only [ae,f0,f1,↓al,aG,simprocAttr]
def iN:List UInt8->Int->Option Nat
 | [],_=>none
 | [_],_=>none
 | x::y::r,d=>if x=40/\y=42 then (iN r (d+1)).map (· +2) else if x=42/\y=41 then (if d-1=0 then some 2 else (iN r (d-1)).map (· +2)) else (iN (y::r) d).map (· +1)
theorem akK (r:List UInt8) (d:Int) (h:r≠[]):iN r d=if ([40,42]:List UInt8).isPrefixOf r=true then (iN (r.drop 2) (d+1)).map (· +2) else
 if ([42,41]:List UInt8).isPrefixOf r=true then (if d-1=0 then some 2 else (iN (r.drop 2) (d-1)).map (· +2)) else (iN (r.drop 1) d).map (· +1):=by
 match r,h with
 | [x],_=>simp [iN,List.isPrefixOf]
 | x::y::r,_=>
   have aP:(([40,42]:List UInt8).isPrefixOf (x::y::r)=true)=(x=40/\y=42):=by simp only [List.isPrefixOf,Bool.and_true,Bool.and_eq_true,beq_iff_eq];exact propext ⟨fun q=>⟨q.1.symm,q.2.symm⟩,fun q=>⟨q.1.symm,q.2.symm⟩⟩
   have bf:(([42,41]:List UInt8).isPrefixOf (x::y::r)=true)=(x=42/\y=41):=by simp only [List.isPrefixOf,Bool.and_true,Bool.and_eq_true,beq_iff_eq];exact propext ⟨fun q=>⟨q.1.symm,q.2.symm⟩,fun q=>⟨q.1.symm,q.2.symm⟩⟩
   rw [iN];simp only [aP,bf,List.drop_succ_cons,List.drop_zero]
theorem Vt {a b:UInt8} {r:List UInt8} (h:([a,b]:List UInt8).isPrefixOf r=true):2<=r.length:=by rw [List.isPrefixOf_iff_prefix] at h;simpa using h.length_le
def ft (s:List UInt8) (at' e:Int):cd:=.bE [.str s,.int .i64 at',.int .i64 e] 0 false
theorem akL (s:List UInt8) (a0:Nat) (c_:Int) (b:aQ) (h:ah) (ae:h.get b=ft s a0 c_) (aW:a0<=s.length) (aS:s.length<=100000) (ha:Old h b):
 de Tryz.prog 126 [.ptr b 0] h fun x ab=>x=.tuple []/\Mod (fun x=>x=b) h ab/\(match iN (s.drop a0) 0 with
  | some n=>ab.get b=ft s ((a0+n:Nat):Int) c_/\a0+n<=s.length
  | none=>ab.get b=ft s (s.length:Int) 253):=by
 refine aap.z rfl (dM ?_);unfold PI;unfold ft at ae ⊢;simp +contextual only [ae,↓al,aG,simprocAttr];refine fa (fun r ab=>∃(a:Nat) (d:Int),a0<=a/\a<=s.length/\r 0=.ptr b 0/\r 2=.int .i64 d/\ab.get b=.bE [.str s,.int .i64 a,.int .i64 c_] 0 false/\Mod (fun x=>x=b) h ab/\-(a:Int)<=d/\d<=a/\
  iN (s.drop a0) 0=(iN (s.drop a) d).map (· + (a-a0))) (fun r ab=>s.length - ((ia (ab.get b) 1).getD .bad).toN) ?_ ?_
 . refine ⟨a0,0,Nat.le_refl _,aW,?_⟩;simp only [↓al,aG,simprocAttr];refine ⟨ae,Mod.refl _ _,by omega,by omega,?_⟩;rw [Nat.sub_self];cases iN (s.drop a0) 0<;>rfl
 . rintro r ab ⟨a,d,iu,bz,bt,cF,aB,hm,d0,d1,bK⟩;unfold PJ;by_cases gB:(s.length:Int)<=(a:Int)
   . have a1:a=s.length:=by omega
     have aV:iN (s.drop a) d=none:=by rw [a1,List.drop_length];rfl
     rw [aV] at bK;simp +contextual only [bt,cF,aB,gB,↓al,aG,simprocAttr];rw [bK];refine ⟨hm.set (fun _=>rfl) _,?_⟩;simp only [a1,Option.map_none,dC,if_true]
   . have ck:s.drop a≠[]:=by
      intro q;rw [List.drop_eq_nil_iff] at q;omega
     have BO:∀p,gu Tryz.prog 125 [.ptr b 0,.str p] ab (.bool (p.isPrefixOf (s.drop a))) ab:=fun p=>by have:=JU s p (a:Int) [.int .i64 c_] b 0 false ab aB (by omega) (by omega);simpa using this
     have h':=akK (s.drop a) d ck;simp +contextual only [bt,cF,aB,gB,↓al,aG,simprocAttr];refine gL (BO _) ?_;cases iY:([40,42]:List UInt8).isPrefixOf (s.drop a) with
     | true=>
       have ad:=Vt iY;rw [List.length_drop] at ad;rw [iY,if_pos rfl] at h';have b3:IntKind.i64.wrap (d+1)=d+1:=wrap_i64 (by omega) (by omega);have b2:IntKind.i64.wrap ((a:Int)+2)=((a+2:Nat):Int):=by rw [wrap_i64 (by omega) (by omega)];rfl
       simp +contextual only [bt,cF,aB,b3,b2,↓al,aG,simprocAttr];refine ⟨⟨a+2,d+1,by omega,by omega,rfl,rfl,hm.set (fun _=>rfl) _,by omega,by omega,?_⟩,by omega⟩;rw [bK,h',List.drop_drop,Option.map_map];congr 1;funext q;simp only [Function.comp];omega
     | false=>
       rw [iY,if_neg (by decide)] at h';simp +contextual only [bt,cF,aB,↓al,aG,simprocAttr];refine gL (BO _) ?_;cases hZ:([42,41]:List UInt8).isPrefixOf (s.drop a) with
       | true=>
         have ad:=Vt hZ;rw [List.length_drop] at ad;rw [hZ,if_pos rfl] at h';have b3:IntKind.i64.wrap (d-1)=d-1:=wrap_i64 (by omega) (by omega);have b2:IntKind.i64.wrap ((a:Int)+2)=((a+2:Nat):Int):=by rw [wrap_i64 (by omega) (by omega)];rfl
         by_cases bb:d-1=0
         . rw [if_pos bb] at h';obtain rfl:d=1:=by omega
           have ay:IntKind.i64.wrap 0=0:=rfl;simp +contextual only [bt,cF,aB,ay,b2,↓al,aG,simprocAttr];rw [bK,h'];refine ⟨hm.set (fun _=>rfl) _,?_⟩;simp only [Option.map_some,dC,if_true];refine ⟨?_,by omega⟩;rw [show a0 + (2 + (a-a0))=a+2 from by omega]
         . rw [if_neg bb] at h';simp +contextual only [bt,cF,aB,b3,b2,bb,↓al,aG,simprocAttr];refine ⟨⟨a+2,d-1,by omega,by omega,rfl,rfl,hm.set (fun _=>rfl) _,by omega,by omega,?_⟩,by omega⟩;rw [bK,h',List.drop_drop,Option.map_map];congr 1;funext q;simp only [Function.comp];omega
       | false=>
         rw [hZ,if_neg (by decide)] at h';have b2:IntKind.i64.wrap ((a:Int)+1)=((a+1:Nat):Int):=by rw [wrap_i64 (by omega) (by omega)];rfl
         simp +contextual only [bt,cF,aB,b2,↓al,aG,simprocAttr];refine ⟨⟨a+1,d,by omega,by omega,rfl,rfl,hm.set (fun _=>rfl) _,by omega,by omega,?_⟩,by omega⟩;rw [bK,h',List.drop_drop,Option.map_map];congr 1;funext q;simp only [Function.comp];omega
theorem drop_cons {s:List UInt8} {a:Nat} (h:a<s.length):s.drop a=s[a]::s.drop (a+1):=List.drop_eq_getElem_cons h
theorem W7 (p:UInt8->Bool):∀l:List UInt8,(l.takeWhile p).length<=l.length
 | []=>by simp
 | x::l=>by
   simp only [List.takeWhile_cons]
   split
   . simpa using W7 p l
   . simp
theorem We (s:List UInt8) (a0:Nat) (c_:Int) (b:aQ) (g:FuncId) (p:Int->Bool) (h:ah) (ae:h.get b=ft s a0 c_) (aW:a0<=s.length) (aS:s.length<=100000) (aZ:(g=4294967296)=False)
 (af:∀c h,gu Tryz.prog g [.int .u8 c] h (.bool (p c)) h):
 de Tryz.prog 156 [.ptr b 0,.func g []] h fun x ab=>x=.str ((s.drop a0).takeWhile fun c=>p c.toNat)/\Mod (fun x=>x=b) h ab/\ab.get b=ft s ((a0 + ((s.drop a0).takeWhile fun c=>p c.toNat).length:Nat):Int) c_:=by
 refine aaE.z rfl (dM ?_);unfold P1;unfold ft at ae ⊢;simp +contextual only [ae,↓al,aG,simprocAttr];refine fa (fun r ab=>∃(a:Nat),a0<=a/\a<=s.length/\r 0=.ptr b 0/\r 1=.func g []/\r 5=.int .i64 a0/\ab.get b=.bE [.str s,.int .i64 a,.int .i64 c_] 0 false/\Mod (fun x=>x=b) h ab/\
  ((s.drop a0).takeWhile fun c=>p c.toNat)=(s.drop a0).take (a-a0)++((s.drop a).takeWhile fun c=>p c.toNat)) (fun r ab=>s.length - ((ia (ab.get b) 1).getD .bad).toN) ?_ ?_
 . refine ⟨a0,Nat.le_refl _,aW,?_⟩;simp only [↓al,aG,simprocAttr];refine ⟨ae,Mod.refl _ _,?_⟩;rw [Nat.sub_self];rfl
 . rintro r ab ⟨a,iu,bz,bt,br,c1,aB,hm,bK⟩;unfold P2;have fin:((s.drop a).takeWhile fun c=>p c.toNat)=[]->V.str (((s.drop a0).take (a-a0)))=V.str ((s.drop a0).takeWhile fun c=>p c.toNat)/\Mod (fun x=>x=b) h ab/\cd.bE [V.str s,V.int .i64 a,V.int .i64 c_] 0 false=cd.bE [V.str s,V.int .i64 ((a0 + ((s.drop a0).takeWhile fun c=>p c.toNat).length:Nat):Int),V.int .i64 c_] 0 false:=by
    intro q;rw [q,List.append_nil] at bK;rw [bK,List.length_take,List.length_drop];refine ⟨rfl,hm,?_⟩;rw [show a0+min (a-a0) (s.length-a0)=a from by omega]
   have f0:(0<=(a0:Int))=True:=eq_true (by omega);have f1:((a0:Int)<=(a:Int))=True:=eq_true (by omega);have f2:((a:Int)<=(s.length:Int))=True:=eq_true (by omega);have f3:(0<=(a:Int))=True:=eq_true (by omega);by_cases gB:(a:Int) < (s.length:Int)
   . have aO:a<s.length:=by omega
     rw [drop_cons aO,List.takeWhile_cons] at bK fin;simp +contextual only [aZ,if_false,bt,br,c1,aB,gB,f0,f1,f2,f3,List.getElem?_eq_getElem aO,Int.toNat_natCast,↓al,aG,simprocAttr];refine gL (af _ _) ?_;cases p8:p ((s[a]).toNat:Int) with
     | true=>
       rw [p8] at bK;have b2:IntKind.i64.wrap ((a:Int)+1)=((a+1:Nat):Int):=by rw [wrap_i64 (by omega) (by omega)];rfl
       simp +contextual only [p8,bt,br,c1,aB,gB,f0,f1,f2,f3,b2,List.getElem?_eq_getElem aO,Int.toNat_natCast,↓al,aG,simprocAttr];refine ⟨⟨a+1,by omega,by omega,rfl,hm.set (fun _=>rfl) _,?_⟩,by omega⟩;rw [bK,if_pos rfl];have Kt:a-a0 < (s.drop a0).length:=by rw [List.length_drop];omega
       rw [show a+1-a0=a-a0+1 from by omega,<-List.take_append_getElem Kt,List.append_assoc];congr 1;rw [List.getElem_drop];simp only [show a0 + (a-a0)=a from by omega];rfl
     | false=>
       rw [p8] at fin;simp +contextual only [p8,bt,br,c1,aB,gB,f0,f1,f2,f3,List.getElem?_eq_getElem aO,Int.toNat_natCast,↓al,aG,simprocAttr];exact fin rfl
   . have a1:a=s.length:=by omega
     simp +contextual only [aZ,if_false,bt,br,c1,aB,gB,f0,f1,f2,f3,Int.toNat_natCast,↓al,aG,simprocAttr];refine fin ?_;rw [a1,List.drop_length];rfl
end
end Go.Proofs.YthemdhlheglhoaaGreatDoor
