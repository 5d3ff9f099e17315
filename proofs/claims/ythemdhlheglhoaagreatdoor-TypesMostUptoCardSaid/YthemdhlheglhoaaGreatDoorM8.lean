/- The chapter's functions, walked by the abstract machine: plain lemmas, no condition. Printed by a program from longer texts: names made short. -/
import Derived.Test.YthemdhlheglhoaaGreatDoorM7
import Derived.Test.YthemdhlheglhoaaGreatDoorM4
import Derived.WalkSmall
import Derived.Test.YthemdhlheglhoaaGreatDoorM6
import Derived.Shelf.Strings.Search3
import Derived.Shelf.Strings.OnBuilder
import Derived.Shelf.SlIterI.Nil
import Derived.Shelf.SortM.Plain
import Derived.Shelf.SortM.SortNone
import Derived.MakeChecks
import Derived.Shelf.Vars
import Derived.Lay
import Derived.LaidLaws
import Derived.Lib.LaidTab
import Derived.Lib.LaidU8T
import Derived.Test.YthemdhlheglhoaaGreatDoorRows
set_option linter.unusedSectionVars false
set_option linter.unusedSimpArgs false
set_option linter.unusedVariables false
set_option maxHeartbeats 64000000
noncomputable section
namespace Go.Proofs.YthemdhlheglhoaaGreatDoor
section
open Go aY Go.RowKit
theorem AM {w:World} {p:Addr} {v:Value} (h:w.cell? p=some v):p.block<w.heap.size:=by
 unfold World.cell? at h;by_cases q:p.block<w.heap.size
 . exact q
 . rw [Array.getElem?_eq_none (by omega)] at h;cases h
def xI (w:World) (g:Nat):Prop:=∃aR,w.cell? ⟨g,0,none⟩=some aR/\(aR=.nilIface\/∃anH Vk,aR=.iface anH Vk)
theorem xI.gB {w w':World} {g:Nat} (h:xI w g) (ae:Below w.heap.size w w'):xI w' g:=by obtain ⟨aR,aa,ad⟩:=h;exact ⟨aR,by rw [ae.cell (AM aa)];exact aa,ad⟩
structure H4 (w:World):Prop where
 Xx:Lib.Utf8Tabs 2 3 w
 maxLen:∃m,w.cell? ⟨0,0,none⟩=some (.int .i64 m)
 Rv:xI w 7
 Vs:Lib.TabIs Tryz.prog w "internal/strconv.uint64pow10" .u64 Lib.pow10Tab
instance lay:Lay where
 ok w:=H4 w
 gB:=by
  intro w w' h ae;refine ⟨?_,?_,h.Rv.gB ae,?_⟩
  . obtain ⟨aa,ad⟩:=h.Xx;refine ⟨fun c aC=>?_,fun i aq=>?_⟩
    . rw [ae.cell (AM (aa c aC))];exact aa c aC
    . obtain ⟨ao,ax⟩:=ad i aq;rw [ae.cell (AM ao),ae.cell (AM ax)];exact ⟨ao,ax⟩
  . obtain ⟨m,q⟩:=h.maxLen;exact ⟨m,by rw [ae.cell (AM q)];exact q⟩
  . have aF:Tryz.prog.globalNamed "internal/strconv.uint64pow10"=some 1:=by kernel_rfl
    have az:1<w.heap.size:=by
     have q:=h.Vs;unfold Lib.TabIs World.var? at q;rw [aF] at q;by_cases aT:1<w.heap.size
     . exact aT
     . simp only [Option.bind_some] at q;rw [Array.getElem?_eq_none (by omega)] at q;cases q
    exact var?_below ae aF az h.Vs
section
open Go.Shelf
def Tryz.ajC:Go.Shelf.Ren:=⟨fun | 144=>159 | 143=>167 | 219=>177 | 217=>138 | 225=>181 | 224=>182 | 267=>183 | 266=>153 | 314=>184 | n=>n,fun | 9=>9 | 4=>4 | 3=>3 | 5=>5 | 46=>141 | 146=>221 | 51=>164 | n=>n,fun | 1=>0 | n=>n⟩
theorem Tryz.ajB:Go.Proofs.Lays.n144 Tryz.prog Tryz.ajC:={
 mixed:=by kernel_rfl,
 f143:=Tryz.func167.trans (congrArg some (by kernel_rfl)),
 f144:=Tryz.func159.trans (congrArg some (by kernel_rfl)),
 f217:=Tryz.func138.trans (congrArg some (by kernel_rfl)),
 f219:=Tryz.func177.trans (congrArg some (by kernel_rfl)),
 f224:=Tryz.func182.trans (congrArg some (by kernel_rfl)),
 f225:=Tryz.func181.trans (congrArg some (by kernel_rfl)),
 f266:=Tryz.func153.trans (congrArg some (by kernel_rfl)),
 f267:=Tryz.func183.trans (congrArg some (by kernel_rfl)),
 f314:=Tryz.func184.trans (congrArg some (by kernel_rfl)),
 t3:=Tryz.underlying3,
 a3:=Tryz.isAgg3,
 z3:=Tryz.sizeOf3,
 v3:=Tryz.zeroValue3,
 t4:=Tryz.underlying4,
 a4:=Tryz.isAgg4,
 z4:=Tryz.sizeOf4,
 v4:=Tryz.zeroValue4,
 t5:=Tryz.underlying5,
 a5:=Tryz.isAgg5,
 z5:=Tryz.sizeOf5,
 v5:=Tryz.zeroValue5,
 t9:=Tryz.underlying9,
 a9:=Tryz.isAgg9,
 z9:=Tryz.sizeOf9,
 v9:=Tryz.zeroValue9,
 t46:=Tryz.underlying141,
 a46:=Tryz.isAgg141,
 z46:=Tryz.sizeOf141,
 v46:=Tryz.zeroValue141,
 t51:=Tryz.underlying164,
 a51:=Tryz.isAgg164,
 z51:=Tryz.sizeOf164,
 v51:=Tryz.zeroValue164,
 t146:=Tryz.underlying221,
 a146:=Tryz.isAgg221,
 z146:=Tryz.sizeOf221,
 v146:=Tryz.zeroValue221,
 g1:=by kernel_rfl}
def Tryz.TS:Go.Shelf.Ren:=⟨fun | 156=>72 | 165=>95 | 166=>96 | 169=>97 | 240=>110 | 241=>111 | 276=>129 | 277=>130 | n=>n,fun | 31=>98 | 9=>9 | 3=>3 | 4=>4 | 0=>0 | 20=>20 | 72=>130 | 76=>134 | 70=>127 | 37=>128 | 75=>133 | 127=>155 | 164=>174 | 5=>5 | 80=>136 | n=>n,fun | n=>n⟩
theorem Tryz.TR:Go.Proofs.Lays.n156 Tryz.prog Tryz.TS:={
 mixed:=by kernel_rfl,
 f156:=Tryz.func72.trans (congrArg some (by kernel_rfl)),
 f165:=Tryz.func95.trans (congrArg some (by kernel_rfl)),
 f166:=Tryz.func96.trans (congrArg some (by kernel_rfl)),
 f169:=Tryz.func97.trans (congrArg some (by kernel_rfl)),
 f240:=Tryz.func110.trans (congrArg some (by kernel_rfl)),
 f241:=Tryz.func111.trans (congrArg some (by kernel_rfl)),
 f276:=Tryz.func129.trans (congrArg some (by kernel_rfl)),
 f277:=Tryz.func130.trans (congrArg some (by kernel_rfl)),
 t0:=Tryz.underlying0,
 a0:=Tryz.isAgg0,
 z0:=Tryz.sizeOf0,
 v0:=Tryz.zeroValue0,
 t3:=Tryz.underlying3,
 a3:=Tryz.isAgg3,
 z3:=Tryz.sizeOf3,
 v3:=Tryz.zeroValue3,
 t4:=Tryz.underlying4,
 a4:=Tryz.isAgg4,
 z4:=Tryz.sizeOf4,
 v4:=Tryz.zeroValue4,
 t9:=Tryz.underlying9,
 a9:=Tryz.isAgg9,
 z9:=Tryz.sizeOf9,
 v9:=Tryz.zeroValue9,
 t20:=Tryz.underlying20,
 a20:=Tryz.isAgg20,
 z20:=Tryz.sizeOf20,
 v20:=Tryz.zeroValue20,
 t31:=Tryz.underlying98,
 a31:=Tryz.isAgg98,
 z31:=Tryz.sizeOf98,
 v31:=Tryz.zeroValue98,
 t37:=Tryz.underlying128,
 a37:=Tryz.isAgg128,
 z37:=Tryz.sizeOf128,
 v37:=Tryz.zeroValue128,
 t70:=Tryz.underlying127,
 a70:=Tryz.isAgg127,
 z70:=Tryz.sizeOf127,
 v70:=Tryz.zeroValue127,
 t72:=Tryz.underlying130,
 a72:=Tryz.isAgg130,
 z72:=Tryz.sizeOf130,
 v72:=Tryz.zeroValue130,
 t75:=Tryz.underlying133,
 a75:=Tryz.isAgg133,
 z75:=Tryz.sizeOf133,
 v75:=Tryz.zeroValue133,
 t76:=Tryz.underlying134,
 a76:=Tryz.isAgg134,
 z76:=Tryz.sizeOf134,
 v76:=Tryz.zeroValue134,
 t127:=Tryz.underlying155,
 a127:=Tryz.isAgg155,
 z127:=Tryz.sizeOf155,
 v127:=Tryz.zeroValue155,
 t164:=Tryz.underlying174,
 a164:=Tryz.isAgg174,
 z164:=Tryz.sizeOf174,
 v164:=Tryz.zeroValue174}
theorem Tryz.Rx:Builder.Extra Tryz.prog Tryz.TS where
 sizeBuilder:=by kernel_rfl
 liesBuilder:=by kernel_rfl
 t5:=Tryz.underlying5
 a5:=Tryz.isAgg5
 z5:=Tryz.sizeOf5
 v5:=Tryz.zeroValue5
 infoByte:=by kernel_rfl
 cellsByte:=by kernel_rfl
 sizeByte:=by kernel_rfl
 neB5:=by decide
def Tryz.TL:Go.Shelf.Ren:=⟨fun | 7=>51 | 10=>78 | n=>n,fun | 23=>65 | 26=>3 | 3=>67 | 28=>76 | 0=>0 | 27=>75 | 33=>111 | 4=>4 | n=>n,fun | n=>n⟩
theorem Tryz.aiu:Go.Proofs.SlLaysZI.n7 Tryz.prog Tryz.TL where
 mixed:=by kernel_rfl
 f7:=⟨"maps.Keys[gimlet/types.maker,int,*gimlet/types.node]",by decide,Tryz.func51.trans (congrArg some (by kernel_rfl))⟩
 f10:=⟨"maps.Keys[gimlet/types.maker,int,*gimlet/types.node]$1",by decide,Tryz.func78.trans (congrArg some (by kernel_rfl))⟩
 t0:=Tryz.underlying0
 a0:=Tryz.isAgg0
 z0:=Tryz.sizeOf0
 v0:=Tryz.zeroValue0
 t4:=Tryz.underlying4
 a4:=Tryz.isAgg4
 z4:=Tryz.sizeOf4
 v4:=Tryz.zeroValue4
 t23:=Tryz.underlying65
 a23:=Tryz.isAgg65
 z23:=Tryz.sizeOf65
 v23:=Tryz.zeroValue65
 t26:=Tryz.underlying3
 a26:=Tryz.isAgg3
 z26:=Tryz.sizeOf3
 v26:=Tryz.zeroValue3
 t27:=Tryz.underlying75
 a27:=Tryz.isAgg75
 z27:=Tryz.sizeOf75
 v27:=Tryz.zeroValue75
 t28:=Tryz.underlying76
 a28:=Tryz.isAgg76
 z28:=Tryz.sizeOf76
 v28:=Tryz.zeroValue76
 t33:=Tryz.underlying111
 a33:=Tryz.isAgg111
 z33:=Tryz.sizeOf111
 v33:=Tryz.zeroValue111
def Tryz.WK:Go.Shelf.Ren:=⟨fun | 6=>50 | 8=>76 | 9=>77 | 11=>100 | 13=>102 | 12=>101 | 23=>121 | 24=>122 | 14=>112 | 15=>113 | 16=>114 | 17=>115 | 18=>116 | 19=>117 | 20=>118 | 21=>119 | 22=>120 | 25=>131 | 26=>132 | 27=>133 | 28=>134 | 29=>135 | 30=>136 | 31=>151 | n=>n,fun | 26=>3 | 28=>76 | 24=>51 | 0=>0 | 3=>3 | 37=>141 | 48=>164 | 50=>166 | 4=>4 | 40=>158 | 39=>157 | 45=>112 | 5=>5 | 9=>9 | 51=>177 | 55=>90 | 57=>190 | 58=>92 | 33=>111 | n=>n,fun | n=>n⟩
theorem Tryz.anb:Go.Proofs.SlLaysZI.n6 Tryz.prog Tryz.WK where
 mixed:=by kernel_rfl
 f6:=⟨"slices.Sorted[int]",by decide,Tryz.func50.trans (congrArg some (by kernel_rfl))⟩
 f8:=⟨"slices.Collect[int]",by decide,Tryz.func76.trans (congrArg some (by kernel_rfl))⟩
 f11:=⟨"slices.AppendSeq[[]int,int]",by decide,Tryz.func100.trans (congrArg some (by kernel_rfl))⟩
 t0:=Tryz.underlying0
 a0:=Tryz.isAgg0
 z0:=Tryz.sizeOf0
 v0:=Tryz.zeroValue0
 t24:=Tryz.underlying51
 a24:=Tryz.isAgg51
 z24:=Tryz.sizeOf51
 v24:=Tryz.zeroValue51
 t26:=Tryz.underlying3
 a26:=Tryz.isAgg3
 z26:=Tryz.sizeOf3
 v26:=Tryz.zeroValue3
 t28:=Tryz.underlying76
 a28:=Tryz.isAgg76
 z28:=Tryz.sizeOf76
 v28:=Tryz.zeroValue76
 i26:=by kernel_rfl
def Tryz.am_:Go.Shelf.Ren:=⟨fun | 5=>77 | 8=>102 | 7=>101 | 19=>121 | 20=>122 | 10=>112 | 11=>113 | 12=>114 | 13=>115 | 14=>116 | 15=>117 | 16=>118 | 17=>119 | 18=>120 | 30=>131 | 31=>132 | 32=>133 | 33=>134 | 34=>135 | 35=>136 | 40=>151 | n=>n,fun | 23=>51 | 25=>3 | 3=>3 | 32=>141 | 22=>51 | 0=>0 | 44=>164 | 46=>166 | 4=>4 | 36=>158 | 35=>157 | 41=>112 | 5=>5 | 9=>9 | 53=>177 | 57=>90 | 63=>190 | 64=>92 | n=>n,fun | n=>n⟩
theorem Tryz.WI:Go.Proofs.SlLaysM.n5 Tryz.prog Tryz.am_ where
 mixed:=by kernel_rfl
 f5:=⟨"slices.Sort[[]int,int]",by decide,Tryz.func77.trans (congrArg some (by kernel_rfl))⟩
 f7:=⟨"slices.pdqsortOrdered[int]",by decide,Tryz.func101.trans (congrArg some (by kernel_rfl))⟩
 f8:=Tryz.func102.trans (congrArg some (by kernel_rfl))
 f10:=⟨"slices.insertionSortOrdered[int]",by decide,Tryz.func112.trans (congrArg some (by kernel_rfl))⟩
 f11:=⟨"slices.heapSortOrdered[int]",by decide,Tryz.func113.trans (congrArg some (by kernel_rfl))⟩
 f12:=⟨"slices.breakPatternsOrdered[int]",by decide,Tryz.func114.trans (congrArg some (by kernel_rfl))⟩
 f13:=⟨"slices.choosePivotOrdered[int]",by decide,Tryz.func115.trans (congrArg some (by kernel_rfl))⟩
 f14:=⟨"slices.reverseRangeOrdered[int]",by decide,Tryz.func116.trans (congrArg some (by kernel_rfl))⟩
 f15:=⟨"slices.partialInsertionSortOrdered[int]",by decide,Tryz.func117.trans (congrArg some (by kernel_rfl))⟩
 f16:=⟨"cmp.Less[int]",by decide,Tryz.func118.trans (congrArg some (by kernel_rfl))⟩
 f17:=⟨"slices.partitionEqualOrdered[int]",by decide,Tryz.func119.trans (congrArg some (by kernel_rfl))⟩
 f18:=⟨"slices.partitionOrdered[int]",by decide,Tryz.func120.trans (congrArg some (by kernel_rfl))⟩
 f19:=Tryz.func121.trans (congrArg some (by kernel_rfl))
 f20:=Tryz.func122.trans (congrArg some (by kernel_rfl))
 f30:=⟨"slices.siftDownOrdered[int]",by decide,Tryz.func131.trans (congrArg some (by kernel_rfl))⟩
 f31:=Tryz.func132.trans (congrArg some (by kernel_rfl))
 f32:=Tryz.func133.trans (congrArg some (by kernel_rfl))
 f33:=⟨"slices.medianAdjacentOrdered[int]",by decide,Tryz.func134.trans (congrArg some (by kernel_rfl))⟩
 f34:=⟨"slices.medianOrdered[int]",by decide,Tryz.func135.trans (congrArg some (by kernel_rfl))⟩
 f35:=⟨"cmp.isNaN[int]",by decide,Tryz.func136.trans (congrArg some (by kernel_rfl))⟩
 f40:=⟨"slices.order2Ordered[int]",by decide,Tryz.func151.trans (congrArg some (by kernel_rfl))⟩
 t0:=Tryz.underlying0
 a0:=Tryz.isAgg0
 z0:=Tryz.sizeOf0
 v0:=Tryz.zeroValue0
 t3:=Tryz.underlying3
 a3:=Tryz.isAgg3
 z3:=Tryz.sizeOf3
 v3:=Tryz.zeroValue3
 t4:=Tryz.underlying4
 a4:=Tryz.isAgg4
 z4:=Tryz.sizeOf4
 v4:=Tryz.zeroValue4
 t5:=Tryz.underlying5
 a5:=Tryz.isAgg5
 z5:=Tryz.sizeOf5
 v5:=Tryz.zeroValue5
 t9:=Tryz.underlying9
 a9:=Tryz.isAgg9
 z9:=Tryz.sizeOf9
 v9:=Tryz.zeroValue9
 t22:=Tryz.underlying51
 a22:=Tryz.isAgg51
 z22:=Tryz.sizeOf51
 v22:=Tryz.zeroValue51
 t23:=Tryz.underlying51
 a23:=Tryz.isAgg51
 z23:=Tryz.sizeOf51
 v23:=Tryz.zeroValue51
 t25:=Tryz.underlying3
 a25:=Tryz.isAgg3
 z25:=Tryz.sizeOf3
 v25:=Tryz.zeroValue3
 t32:=Tryz.underlying141
 a32:=Tryz.isAgg141
 z32:=Tryz.sizeOf141
 v32:=Tryz.zeroValue141
 t35:=Tryz.underlying157
 a35:=Tryz.isAgg157
 z35:=Tryz.sizeOf157
 v35:=Tryz.zeroValue157
 t36:=Tryz.underlying158
 a36:=Tryz.isAgg158
 z36:=Tryz.sizeOf158
 v36:=Tryz.zeroValue158
 t41:=Tryz.underlying112
 a41:=Tryz.isAgg112
 z41:=Tryz.sizeOf112
 v41:=Tryz.zeroValue112
 t44:=Tryz.underlying164
 a44:=Tryz.isAgg164
 z44:=Tryz.sizeOf164
 v44:=Tryz.zeroValue164
 t46:=Tryz.underlying166
 a46:=Tryz.isAgg166
 z46:=Tryz.sizeOf166
 v46:=Tryz.zeroValue166
 t53:=Tryz.underlying177
 a53:=Tryz.isAgg177
 z53:=Tryz.sizeOf177
 v53:=Tryz.zeroValue177
 t57:=Tryz.underlying90
 a57:=Tryz.isAgg90
 z57:=Tryz.sizeOf90
 v57:=Tryz.zeroValue90
 t63:=Tryz.underlying190
 a63:=Tryz.isAgg190
 z63:=Tryz.sizeOf190
 v63:=Tryz.zeroValue190
 t64:=Tryz.underlying92
 a64:=Tryz.isAgg92
 z64:=Tryz.sizeOf92
 v64:=Tryz.zeroValue92
theorem QK (s sub:ByteArray) (m:Int) (w:World) (aM:s.size<4294967281) (hm:w.cell? ⟨0,0,none⟩=some (.int .i64 m)):
 Calls Tryz.prog 159 #[.string s,.string sub] w fun e w'=>e=.returned (.bool (Lib.contains s.data.toList sub.data.toList))/\w'=w:=Any.strings_Contains Tryz.ajB s sub m w aM hm
end
section
open Go.RowKit Go.Maps Go.Sort Go.Shelf
theorem ane (m:Nat):AnyZI.SortsIn Tryz.prog Tryz.WK Fence.wide m:=
 ⟨fun aW off cap e2 W k2 kg b'=>callsIn_wide.2 (AnyM.slices_Sort_int Tryz.WI aW off cap e2 W k2 kg b'),
  fun p cap W=>callsIn_wide.2 (AnyM.slices_Sort_int_none Tryz.WI p cap W)⟩
theorem WL:aY.OM Tryz.prog 50 78 3:=by
 intro u3 b bE qp R w aea vX hE yO aeC;have af2:SeqGives Fence.wide 2 Tryz.prog 78 #[.pointer (some ⟨u3,0,none⟩)] encZ (fun e2=>e2.Perm (intKeys qp)) (Maps.size qp) w:=
  AnyZI.keys_gives (ρ:=Tryz.TL) {Tryz.aiu with} Fence.wide _ trivial rfl (by omega) u3 b bE qp w aea vX hE
 have Jd:=AnyZI.sorted_in Tryz.anb Fence.wide 5 trivial trivial trivial trivial rfl (by omega) (ane _) (enters_of Tryz.func77 (by kernel_rfl) rfl) 78 #[.pointer (some ⟨u3,0,none⟩)] trivial (enters_of Tryz.func78 (by kernel_rfl) rfl) _ _ yO aeC _ af2
 change CallsIn _ _ Tryz.prog 50 _ _ _ at Jd;exact callsIn_wide.1 (Jd.mono fun e w' q=>by obtain ⟨v,e2,rfl,cY,K6,afB,ae⟩:=q;exact ⟨v,e2,rfl,cY,K6,afB,ae⟩)
end
theorem ag4:HX Tryz.prog 72:=
 ⟨fun vu o c xs sep w aa ad aH bt cI=>Go.Proofs.Any.strings_Join Tryz.TR Tryz.Rx vu o c xs sep w aa ad aH bt cI,fun a c sep w=>Go.Proofs.Any.strings_Join_none Tryz.TR Tryz.Rx a c sep w⟩
def ctx:Ctx:=⟨Tryz.prog,fun f=>bif Nat.beq f 159 then some Jj else bif Nat.beq f 50 then some (CH 78) else bif Nat.beq f 72 then some Lr else none,fun f=>bif Nat.beq f 153 then some FF else none⟩
theorem follows:ctx.P.follows .mixedOrders=true:=by kernel_rfl
theorem wT:eF ctx.P:=by
 intro f fn aB;have eb:(Tryz.prog.funcs.toList.all fun fn=>!(fn.name == "runtime.NumGoroutine"))=true:=by kernel_rfl
 have:=List.all_eq_true.1 eb fn (Array.mem_toList_iff.2 (Array.mem_of_getElem? aB));simpa using this
theorem alZ:rP ctx:=by
 refine ⟨fun f p args h v ab af he=>?_,fun f p args h v ab af he ay E w xs ai s=>?_⟩
 . simp only [ctx,h3] at af;by_cases aB:f=159
   . rw [if_pos aB] at af;cases af;subst aB;obtain ⟨s,sub,rfl,aM,rfl,rfl⟩:=ab6 he;refine ⟨⟨_,Tryz.func159,by kernel_rfl⟩,ajo fun E xs w az ai=>?_⟩;obtain ⟨y,cT,rfl,ao,z,iF,rfl,ax,rfl⟩:=ai;simp only [Rel] at ao ax;subst ao ax;obtain ⟨m,hm⟩:=az.maxLen;refine (QK ⟨⟨s⟩⟩ ⟨⟨sub⟩⟩ m w (by show s.length<4294967281;omega) hm).mono fun e w' q=>?_;obtain ⟨rfl,rfl⟩:=q;exact ⟨_,rfl,by simp only [Rel],Below.refl _ _⟩
   . rw [if_neg aB] at af;by_cases aB:f=50
     . rw [if_pos aB] at af;cases af;subst aB;exact ⟨⟨_,Tryz.func50,by kernel_rfl⟩,fun ay E w xs ai s=>WM (by decide) Tryz.underlying3 WL he ay E w xs ai s⟩
     . rw [if_neg aB] at af;by_cases aB:f=72
       . rw [if_pos aB] at af;cases af;subst aB;exact ⟨⟨_,Tryz.func72,by kernel_rfl⟩,fun ay E w xs ai s=>ag3 ag4 he ay E w xs ai s⟩
       . rw [if_neg aB] at af;cases af
 . simp only [ctx,h3] at af;by_cases aB:f=153
   . rw [if_pos aB] at af;cases af;subst aB;exact agT (P:=Tryz.prog) Tryz.func153 (by kernel_rfl) (by kernel_rfl) (by kernel_rfl) (by kernel_rfl) he ay E w xs ai s
   . rw [if_neg aB] at af;cases af
end
section
open Go aY
abbrev ak (d bp:Nat):bG:=⟨some d,.bz (.t bp),none,[bp]⟩
abbrev bM (d bp:Nat):bG:=⟨some d,.fy (.t bp),none,[bp]⟩
abbrev ck (d bp:Nat):bG:=⟨some d,.iR (.t bp),none,[bp]⟩
abbrev dd (d bp:Nat):bG:=⟨some d,.ff 4 (.t bp),none,[bp]⟩
abbrev dQ (d bp:Nat):bG:=⟨some d,.e5 1 (.t bp),none,[bp]⟩
abbrev dU (d bp bq:Nat):bG:=⟨some d,.pick (.t bp) (.t bq) (.c (.bool false)),none,[bp,bq]⟩
abbrev ek (d bp bq:Nat):bG:=⟨some d,.bz (.t bp),(some (bq,true)),[bp,bq]⟩
abbrev e' (d:Nat):bG:=⟨some d,.bz (.c (.bool false)),none,[]⟩
abbrev fq (d bp:Nat):bG:=⟨some d,.bin (.int .add) (.t bp) (.c (.int .i64 1)),none,[bp]⟩
abbrev fG (d bp bq:Nat):bG:=⟨some d,.fy (.t bp),(some (bq,true)),[bp,bq]⟩
abbrev fR (d bp:Nat):bG:=⟨some d,.len .slice (.t bp),none,[bp]⟩
abbrev ga (d:Nat):bG:=⟨some d,.bz (.c (.int .i64 0)),none,[]⟩
abbrev gb (d bp:Nat):bG:=⟨some d,.e5 0 (.t bp),none,[bp]⟩
abbrev hc (d bp:Nat):bG:=⟨some d,.box (.t bp),none,[bp]⟩
abbrev ho (d:Nat):bG:=⟨some d,.new [(.int .i64 0),(.int .i64 0),(.str []),.bU],none,[]⟩
abbrev h0 (d bp:Nat):bG:=⟨some d,.ext (.t bp) 1,none,[bp]⟩
abbrev ih (d bp bq:Nat):bG:=⟨some d,.bin (.int .lss) (.t bp) (.t bq),none,[bp,bq]⟩
abbrev iH (d bp:Nat):bG:=⟨some d,.ext (.t bp) 0,none,[bp]⟩
abbrev iY (d bp bq:Nat):bG:=⟨some d,.bz (.t bp),(some (bq,false)),[bp,bq]⟩
abbrev iZ (d bp bq:Nat):bG:=⟨some d,.pick (.t bp) (.c (.bool true)) (.t bq),none,[bp,bq]⟩
abbrev jn (d:Nat):bG:=⟨some d,.bz (.c .bU),none,[]⟩
abbrev jo (d bp:Nat):bG:=⟨some d,.e5 2 (.t bp),none,[bp]⟩
abbrev jP (d bp:Nat):bG:=⟨some d,.e5 3 (.t bp),none,[bp]⟩
abbrev ny (d bp bq:Nat):bG:=⟨some d,.dD 4 (.t bp) (.t bq),none,[bp,bq]⟩
abbrev nz (d bp:Nat):bG:=⟨some d,.un .not (.t bp),none,[bp]⟩
abbrev nA (d bp:Nat):bG:=⟨some d,.len .str (.t bp),none,[bp]⟩
abbrev qv (d bp:Nat):bG:=⟨some d,.i_ 1 4 [(.int .i64 0),(.int .i64 0),(.str []),.bU] [(0,4,(.t bp))],none,[bp]⟩
abbrev qw (d bp bq:Nat):bG:=⟨some d,.ff 4 (.t bp),(some (bq,true)),[bp,bq]⟩
abbrev qx (d bp bq:Nat):bG:=⟨some d,.e5 1 (.t bp),(some (bq,true)),[bp,bq]⟩
abbrev qy (d bp bq:Nat):bG:=⟨some d,.e5 3 (.t bp),(some (bq,true)),[bp,bq]⟩
abbrev rJ (d bp bq:Nat):bG:=⟨some d,.dD 1 (.t bp) (.t bq),none,[bp,bq]⟩
abbrev rK (d bp bq:Nat):bG:=⟨some d,.iR (.t bp),(some (bq,true)),[bp,bq]⟩
abbrev th (d bp bq:Nat):bG:=⟨some d,.app 4 (.t bp) (.t bq),none,[bp,bq]⟩
abbrev ti (d bp bq:Nat):bG:=⟨some d,.ff 4 (.t bp),(some (bq,false)),[bp,bq]⟩
abbrev tj (d:Nat):bG:=⟨some d,.bz (.c (.bool true)),none,[]⟩
abbrev tk (d bp bq:Nat):bG:=⟨some d,.e5 2 (.t bp),(some (bq,true)),[bp,bq]⟩
abbrev u' (d bp bq dx:Nat):bG:=⟨some d,.bin (.int .eql) (.t bp) (.t bq),(some (dx,true)),[bp,bq,dx]⟩
abbrev u_ (d bp bq:Nat):bG:=⟨some d,.bin (.int .neq) (.t bp) (.t bq),none,[bp,bq]⟩
abbrev va (d bp bq:Nat):bG:=⟨some d,.fy (.t bp),(some (bq,false)),[bp,bq]⟩
abbrev vb (d:Nat):bG:=⟨some d,.rj none,none,[]⟩
abbrev xN (d bp:Nat):bG:=⟨some d,.bin (.int .neq) (.t bp) (.c (.int .i64 0)),none,[bp]⟩
abbrev xO (d bp:Nat):bG:=⟨some d,.call 53 [(.t bp)],none,[bp]⟩
abbrev xP (d bp:Nat):bG:=⟨some d,.bin (.int .eql) (.t bp) (.c (.int .i64 0)),none,[bp]⟩
abbrev Ai (d bp bq:Nat):bG:=⟨some d,.call 23 [(.t bp),(.t bq)],none,[bp,bq]⟩
abbrev Aj (d:Nat):bG:=⟨some d,.new [(.int .i64 0)],none,[]⟩
abbrev Ak (d bp:Nat):bG:=⟨some d,.bin (.int .lss) (.t bp) (.c (.int .i64 0)),none,[bp]⟩
abbrev Al (d bp bq dx:Nat):bG:=⟨some d,.bin (.str .eql) (.t bp) (.t bq),(some (dx,true)),[bp,bq,dx]⟩
abbrev Am (d bp:Nat):bG:=⟨some d,.bin (.int .eql) (.t bp) (.c (.int .i64 1)),none,[bp]⟩
abbrev An (d bp bq:Nat):bG:=⟨some d,.bin (.int .add) (.t bp) (.t bq),none,[bp,bq]⟩
abbrev Ao (d bp bq:Nat):bG:=⟨some d,.e5 0 (.t bp),(some (bq,true)),[bp,bq]⟩
abbrev Ap (d:Nat):bG:=⟨some d,.new [(.int .i64 0),(.int .i64 0),(.int .i64 0),(.str [])],none,[]⟩
abbrev C' (d bp bq:Nat):bG:=⟨some d,.call 13 [(.t bp),(.t bq)],none,[bp,bq]⟩
abbrev C_ (d bp bq dx:Nat):bG:=⟨some d,.call 17 [(.t bp),(.t bq)],(some (dx,true)),[bp,bq,dx]⟩
abbrev Da (d bp:Nat):bG:=⟨some d,.build [(.int .i64 0),(.int .i64 0),(.str []),.bU] [(0,1,(.c (.int .i64 1))),(1,1,(.t bp))],none,[bp]⟩
abbrev Db (d:Nat):bG:=⟨some d,.bz (.c (.int .i64 2)),none,[]⟩
abbrev Dc (d bp bq:Nat):bG:=⟨some d,.iR (.t bp),(some (bq,false)),[bp,bq]⟩
abbrev Dd (d bp bq:Nat):bG:=⟨some d,.e5 1 (.t bp),(some (bq,false)),[bp,bq]⟩
abbrev De (d bp bq:Nat):bG:=⟨some d,.dD 5 (.t bp) (.t bq),none,[bp,bq]⟩
abbrev Df (d bp bq dx:Nat):bG:=⟨some d,.pL (.t bp) [(.t bq),(.t dx)],none,[bp,bq,dx]⟩
abbrev Dg (d bp bq:Nat):bG:=⟨some d,.app 1 (.t bp) (.t bq),none,[bp,bq]⟩
abbrev Dh (d bp bq:Nat):bG:=⟨some d,.bin (.int .sub) (.t bp) (.t bq),none,[bp,bq]⟩
abbrev Di (d bp:Nat):bG:=⟨some d,.bin (.int .sub) (.t bp) (.c (.int .i64 1)),none,[bp]⟩
abbrev Dj (d bp bq:Nat):bG:=⟨some d,.len .slice (.t bp),(some (bq,true)),[bp,bq]⟩
abbrev Dk (d bp bq:Nat):bG:=⟨some d,.bin (.int .geq) (.t bp) (.t bq),none,[bp,bq]⟩
abbrev HO (d bp bq:Nat):bG:=⟨some d,.bin (.int .eql) (.t bp) (.c (.int .i64 0)),(some (bq,true)),[bp,bq]⟩
abbrev HP (d bp bq dx:Nat):bG:=⟨some d,.call 28 [(.t bp),(.t bq)],(some (dx,true)),[bp,bq,dx]⟩
abbrev HQ (d bp bq:Nat):bG:=⟨some d,.rh (.int .i64 0) false (.t bp) (.t bq),none,[bp,bq]⟩
abbrev HR (d bp:Nat):bG:=⟨some d,.bin (.int .gtr) (.t bp) (.c (.int .i64 4096)),none,[bp]⟩
abbrev HS (d bp bq:Nat):bG:=⟨some d,.bin (.int .neq) (.t bp) (.c (.int .i64 0)),(some (bq,false)),[bp,bq]⟩
abbrev HT (d:Nat):bG:=⟨some d,.build [(.int .i64 0),(.int .i64 0),(.str []),.bU] [],none,[]⟩
abbrev HU (d bp:Nat):bG:=⟨some d,.bin (.int .geq) (.t bp) (.c (.int .i64 0)),none,[bp]⟩
abbrev HV (d bp bq:Nat):bG:=⟨some d,.rv (.t bp) (some (.t bq)) none none,none,[bp,bq]⟩
abbrev HW (d:Nat):bG:=⟨some d,.build [(.int .i64 0),(.int .i64 0),(.int .i64 0),(.str [])] [],none,[]⟩
abbrev Oe (d bp bq:Nat):bG:=⟨some d,.i_ 2 4 [(.int .i64 0),(.int .i64 0),(.str []),.bU] [(0,4,(.t bp)),(4,4,(.t bq))],none,[bp,bq]⟩
abbrev Of (d bp bq:Nat):bG:=⟨some d,.look .int (.agg [(.int .i64 0),(.int .i64 0),(.str []),.bU]) true (.t bp) (.t bq),none,[bp,bq]⟩
abbrev Og (d bp:Nat):bG:=⟨some d,.build [(.int .i64 0),(.int .i64 0),(.int .i64 0),(.str [])] [(0,1,(.c (.int .i64 7))),(3,1,(.t bp))],none,[bp]⟩
structure ea (f n:Nat) (fn:Func) (c:aS) (eN:List vi):Prop where
 aB:Tryz.prog.funcs[f]? =some fn
 abS:(fn.body,fn.ntmps,Nat.ble fn.ntmps top,Nat.beq f dt,gj Tryz.prog fn.ntmps (fn.body.getD .skip),mu Tryz.prog fn.ntmps fn.results.toList,c.plain)=(some (fn.body.getD .skip),n,true,false,c,eN,true)
theorem ea.z {f n:Nat} {fn:Func} {c:aS} {eN:List vi} (Z:ea f n fn c eN) {args:List V} {h:ah} {K:V->ah->Prop} (az:Nat.ble args.length n=true) (H:fZ Tryz.prog c (bc.bx args) h fun e r ab=>e.ends/\∃ag,kA r ab eN=some ag/\K (oneOf ag) ab):c4 Tryz.prog f args h K:=by have q:=Z.abS;simp only [Prod.mk.injEq] at q;obtain ⟨aa,ad,aH,bt,cI,cA,iM⟩:=q;exact acg follows wT Z.aB aa aH bt (by rw [ad];exact az) cI cA iM H
def c3:aS:=
 .seq (.av [e' 4])
 (.seq (.seq (.av [ak 12 0,⟨some 13,.call 10 [(.t 12),(.c (.int .i64 300))],none,[12]⟩,ak 14 13,iY 15 1 14,⟨some 16,.call 10 [(.t 15),(.c (.int .i64 300))],(some (14,false)),[15,14]⟩,iZ 17 14 16])
 (.cond (.t 17)
 (.seq (.av [⟨some 18,.call 11 [],none,[]⟩,ak 4 18])
 (.ret))
 (.skip)))
 (.seq (.av [ak 19 0,⟨some 20,.call 12 [(.t 19)],none,[19]⟩,ak 21 1,⟨some 22,.call 12 [(.t 21)],none,[21]⟩,ak 5 20,ak 6 22])
 (.seq (.av [ak 24 5,ak 25 6,C' 26 24 25,ak 23 26,iH 27 23,h0 28 23,ak 7 27,ak 8 28])
 (.seq (.av [ak 30 0,ak 31 1,⟨some 32,.call 14 [(.t 30),(.t 31)],none,[30,31]⟩,ak 29 32,iH 33 29,h0 34 29,ak 9 33,ak 10 34])
 (.seq (.av [ak 35 7,ak 36 9,⟨some 37,.call 15 [(.t 35),(.t 36)],none,[35,36]⟩,ak 38 37,ek 39 8 38,ek 40 10 38,u' 41 39 40 38,dU 42 38 41,ak 11 42])
 (.seq (.av [ak 43 7,⟨some 44,.call 16 [(.t 43)],none,[43]⟩])
 (.seq (.av [ak 45 11,ak 46 45,ek 47 5 46,ek 48 0 46,C_ 49 47 48 46,dU 50 46 49,ak 51 50,ek 52 6 51,ek 53 1 51,C_ 54 52 53 51,dU 55 51 54,ak 56 55,⟨some 57,.call 11 [],(some (56,true)),[56]⟩,dU 58 56 57,ak 4 58])
 (.ret))))))))
def aa_:aS:=
 .seq (.seq (.av [ak 19 7,ak 20 0,ih 21 19 20])
 (.cond (.t 21)
 (.skip)
 (.exit 0)))
 (.seq (.block 1 (.seq (.av [ak 24 7,fq 25 24,Da 26 25,ho 8,⟨none,.st 4 (.t 8) (.t 26),none,[8,26]⟩])
 (.seq (.av [ak 27 5,ak 28 7,Da 29 28,qv 30 29,th 31 27 30,ak 5 31])
 (.av [ak 32 6,dd 33 8,dd 34 8,Oe 35 33 34,⟨some 36,.build [(.int .i64 0),(.int .i64 0),(.str []),.bU] [(0,1,(.c (.int .i64 2))),(2,1,(.c (.str [42]))),(3,1,(.t 35))],none,[35]⟩,qv 37 36,th 38 32 37,ak 6 38]))))
 (.av [ak 22 7,fq 23 22,ak 7 23]))
def aba:aS:=
 .seq (.seq (.av [ak 41 10,ak 42 1,ih 43 41 42])
 (.cond (.t 43)
 (.skip)
 (.exit 2)))
 (.seq (.block 3 (.av [dd 46 9,qv 47 46,⟨some 48,.build [(.int .i64 0),(.int .i64 0),(.str []),.bU] [(0,1,(.c (.int .i64 2))),(2,1,(.c (.str [114,101,102]))),(3,1,(.t 47))],none,[47]⟩,⟨none,.st 4 (.t 9) (.t 48),none,[9,48]⟩]))
 (.av [ak 44 10,fq 45 44,ak 10 45]))
def fu:aS:=
 .seq (.av [e' 4])
 (.seq (.av [ak 15 0,⟨some 16,.call 18 [(.t 15),(.c (.int .i64 15))],none,[15]⟩,ak 17 1,⟨some 18,.call 18 [(.t 17),(.c (.int .i64 206))],none,[17]⟩,ak 0 16,ak 1 18])
 (.seq (.av [jn 5,jn 6])
 (.seq (.seq (.av [ga 7])
 (.block 0 (.loop aa_)))
 (.seq (.av [ak 39 0,Da 40 39,ho 9,⟨none,.st 4 (.t 9) (.t 40),none,[9,40]⟩])
 (.seq (.seq (.av [⟨some 10,.bz (.c (.int .i64 1)),none,[]⟩])
 (.block 2 (.loop aba)))
 (.seq (.av [ak 50 5,ak 51 6,C' 52 50 51,ak 49 52,iH 53 49,h0 54 49,ak 11 53,ak 12 54])
 (.seq (.av [ak 56 5,ak 57 6,⟨some 58,.call 14 [(.t 56),(.t 57)],none,[56,57]⟩,ak 55 58,iH 59 55,h0 60 55,ak 13 59,ak 14 60])
 (.seq (.draw [ak 61 11,ak 62 13,⟨some 63,.call 15 [(.t 61),(.t 62)],none,[61,62]⟩,ak 64 63,ek 65 12 64,ek 66 14 64,u' 67 65 66 64,dU 68 64 67,ak 69 68,qw 70 9 69,qw 72 9 69,⟨some 71,.call 19 [(.t 70)],(some (69,true)),[70,69]⟩,⟨some 73,.call 20 [(.t 72)],(some (69,true)),[72,69]⟩,u' 74 71 73 69,dU 75 69 74,ak 76 75,qw 77 9 76,ek 80 1 76,⟨some 81,.bin (.int .leq) (.t 80) (.c (.int .i64 200)),(some (76,true)),[80,76]⟩,⟨some 78,.call 19 [(.t 77)],(some (76,true)),[77,76]⟩,HO 79 78 76,⟨some 82,.bin (.yi false) (.t 79) (.t 81),(some (76,true)),[79,81,76]⟩,dU 83 76 82,ak 84 83,⟨some 85,.call 11 [],(some (84,true)),[84]⟩,dU 86 84 85,ak 4 86] [(9,[11]),(10,[11,12]),(16,[19])])
 (.ret)))))))))
def c5:aS:=
 .seq (.av [hc 3 1,e' 4])
 (.seq (.seq (.av [ak 12 0,⟨some 13,.call 21 [(.t 12),(.c (.int .i64 300))],none,[12]⟩,ak 14 13,ti 15 3 14,⟨some 16,.i_ 1 4 [(.int .i64 0),(.int .i64 0),(.str []),.bU] [(0,4,(.t 15))],(some (14,false)),[15,14]⟩,⟨some 17,.call 10 [(.t 16),(.c (.int .i64 300))],(some (14,false)),[16,14]⟩,iZ 18 14 17])
 (.cond (.t 18)
 (.seq (.av [⟨some 19,.call 11 [],none,[]⟩,ak 4 19])
 (.ret))
 (.skip)))
 (.seq (.av [dd 20 3,qv 21 20,⟨some 22,.call 12 [(.t 21)],none,[21]⟩,ak 23 0,⟨some 24,.call 22 [(.t 23)],none,[23]⟩,ak 5 22,ak 6 24])
 (.seq (.av [ak 26 6,ak 27 5,⟨some 28,.dD 4 (.t 27) (.c (.int .i64 0)),none,[27]⟩,dd 29 28,Ai 30 26 29,ak 25 30,iH 31 25,h0 32 25,ho 7,⟨none,.st 4 (.t 7) (.t 31),none,[7,31]⟩,ak 8 32])
 (.seq (.av [ak 34 0,dd 35 3,⟨some 36,.call 24 [(.t 34),(.t 35)],none,[34,35]⟩,ak 33 36,iH 37 33,h0 38 33,ho 9,⟨none,.st 4 (.t 9) (.t 37),none,[9,37]⟩,ak 10 38])
 (.seq (.av [dd 39 7,dd 40 9,⟨some 41,.call 25 [(.t 39),(.t 40)],none,[39,40]⟩,ak 42 41,ek 43 8 42,ek 44 10 42,u' 45 43 44 42,dU 46 42 45,ak 11 46])
 (.seq (.av [dd 47 7,qv 48 47,⟨some 49,.call 26 [(.t 48)],none,[48]⟩])
 (.seq (.av [ak 50 11,ak 51 50,ek 52 5 51,qw 53 3 51,⟨some 54,.i_ 1 4 [(.int .i64 0),(.int .i64 0),(.str []),.bU] [(0,4,(.t 53))],(some (51,true)),[53,51]⟩,C_ 55 52 54 51,dU 56 51 55,ak 57 56,ek 58 6 57,ek 59 0 57,⟨some 60,.call 15 [(.t 58),(.t 59)],(some (57,true)),[58,59,57]⟩,dU 61 57 60,ak 62 61,⟨some 63,.call 11 [],(some (62,true)),[62]⟩,dU 64 62 63,ak 4 64])
 (.ret))))))))
def Qu:aS:=
 .seq (.av [hc 3 0,hc 4 1,e' 6])
 (.seq (.av [⟨some 23,.call 8 [],none,[]⟩,ak 7 23])
 (.seq (.seq (.av [dd 24 3,dd 25 4,Oe 26 24 25,⟨some 27,.call 10 [(.t 26),(.c (.int .i64 200))],none,[26]⟩,ak 28 27,iY 29 2 28,⟨some 30,.call 21 [(.t 29),(.c (.int .i64 200))],(some (28,false)),[29,28]⟩,iZ 31 28 30])
 (.cond (.t 31)
 (.seq (.av [ak 32 7,ak 6 32])
 (.ret))
 (.skip)))
 (.seq (.draw [dd 34 3,dd 36 4,⟨some 35,.call 41 [(.t 34)],none,[34]⟩,⟨some 37,.call 41 [(.t 36)],none,[36]⟩,C' 38 35 37,ak 33 38,iH 39 33,h0 40 33,ak 8 39,ak 9 40] [(0,[2]),(1,[2,3])])
 (.seq (.draw [dd 42 4,dd 44 3,⟨some 43,.call 41 [(.t 42)],none,[42]⟩,⟨some 45,.call 41 [(.t 44)],none,[44]⟩,C' 46 43 45,ak 41 46,iH 47 41,h0 48 41,ak 10 47,ak 11 48] [(0,[2]),(1,[2,3])])
 (.seq (.seq (.av [ak 49 9,ak 50 11,u_ 51 49 50,ak 52 51,iY 53 8 52,iY 54 10 52,⟨some 55,.call 15 [(.t 53),(.t 54)],(some (52,false)),[53,54,52]⟩,⟨some 56,.un .not (.t 55),(some (52,false)),[55,52]⟩,iZ 57 52 56])
 (.cond (.t 57)
 (.seq (.av [e' 6])
 (.ret))
 (.skip)))
 (.seq (.av [ak 59 2,dd 60 3,⟨some 61,.call 45 [(.t 59),(.t 60)],none,[59,60]⟩,ak 58 61,iH 62 58,h0 63 58,ho 12,⟨none,.st 4 (.t 12) (.t 62),none,[12,62]⟩,ak 13 63])
 (.seq (.av [ak 65 2,dd 66 4,⟨some 67,.call 45 [(.t 65),(.t 66)],none,[65,66]⟩,ak 64 67,iH 68 64,h0 69 64,ho 14,⟨none,.st 4 (.t 14) (.t 68),none,[14,68]⟩,ak 15 69])
 (.seq (.av [ak 70 13,ak 71 70,ek 72 15 71,dU 73 71 72,ak 74 73,qw 75 12 74,qw 76 14 74,HP 77 75 76 74,dU 78 74 77,ak 16 78])
 (.seq (.seq (.av [ak 79 9,⟨some 80,.bin (.int .eql) (.t 79) (.c (.int .i64 2)),none,[79]⟩,ak 81 80,iY 82 9 81,⟨some 83,.bin (.int .eql) (.t 82) (.c (.int .i64 3)),(some (81,false)),[82,81]⟩,iZ 84 81 83])
 (.cond (.t 84)
 (.seq (.av [ak 85 7,ak 6 85])
 (.ret))
 (.skip)))
 (.seq (.seq (.av [ak 86 9,xN 87 86])
 (.cond (.t 87)
 (.seq (.av [ak 88 7,ak 89 88,ek 90 16 89,⟨some 91,.un .not (.t 90),(some (89,true)),[90,89]⟩,dU 92 89 91,ak 6 92])
 (.ret))
 (.skip)))
 (.seq (.av [ak 94 8,dd 95 3,Ai 96 94 95,ak 93 96,iH 97 93,h0 98 93,ho 17,⟨none,.st 4 (.t 17) (.t 97),none,[17,97]⟩,ak 18 98])
 (.seq (.av [ak 100 8,dd 101 4,Ai 102 100 101,ak 99 102,iH 103 99,h0 104 99,ho 19,⟨none,.st 4 (.t 19) (.t 103),none,[19,103]⟩,ak 20 104])
 (.seq (.seq (.av [ak 105 18,ak 106 20,u_ 107 105 106])
 (.cond (.t 107)
 (.seq (.av [e' 6])
 (.ret))
 (.skip)))
 (.seq (.seq (.av [ak 108 18,xN 109 108])
 (.cond (.t 109)
 (.seq (.av [ak 110 7,ak 111 110,ek 112 18 111,⟨some 113,.bin (.int .eql) (.t 112) (.c (.int .i64 3)),(some (111,true)),[112,111]⟩,dU 114 111 113,ak 6 114])
 (.ret))
 (.skip)))
 (.seq (.av [ak 116 8,dd 117 17,Ai 118 116 117,ak 115 118,iH 119 115,h0 120 115,ho 21,⟨none,.st 4 (.t 21) (.t 119),none,[21,119]⟩,ak 22 120])
 (.seq (.av [ak 121 7,ak 122 121,qw 123 17 122,qw 124 19 122,HP 125 123 124 122,dU 126 122 125,ak 127 126,ek 128 22 127,HO 129 128 127,dU 130 127 129,ak 131 130,qw 132 21 131,qw 133 17 131,HP 134 132 133 131,dU 135 131 134,ak 136 135,ek 137 16 136,⟨some 138,.un .not (.t 137),(some (136,true)),[137,136]⟩,ek 139 138 136,ti 140 17 139,ti 141 12 139,⟨some 142,.call 27 [(.t 140),(.t 141)],(some (139,false)),[140,141,139]⟩,⟨some 143,.pick (.t 139) (.c (.bool true)) (.t 142),(some (136,true)),[139,142,136]⟩,dU 144 136 143,ak 6 144])
 (.ret)))))))))))))))))
theorem abo:ea 9 145 Tryz.f9 Qu [.t 6]:=⟨Tryz.func9,by kernel_rfl⟩
def IU:aS:=
 .seq (.av [e' 4])
 (.seq (.av [ak 5 0,ak 6 1,⟨some 7,.call 46 [(.t 5),(.t 6)],none,[5,6]⟩,ak 8 1,⟨some 9,.bin (.int .gtr) (.t 7) (.t 8),none,[7,8]⟩,ak 4 9])
 (.ret))
theorem PC:ea 10 10 Tryz.f10 IU [.t 4]:=⟨Tryz.func10,by kernel_rfl⟩
def IV:aS:=
 .seq (.av [ih 29 28 27])
 (.seq (.cond (.t 29)
 (.skip)
 (.exit 0))
 (.seq (.block 1 (.seq (.av [ny 30 26 28,dd 31 30,ho 7,⟨none,.st 4 (.t 7) (.t 31),none,[7,31]⟩])
 (.seq (.av [dd 32 7,⟨some 33,.call 19 [(.t 32)],none,[32]⟩,xN 34 33])
 (.cond (.t 34)
 (.seq (.av [jn 4,Db 5])
 (.ret))
 (.skip)))))
 (.av [fq 35 28,ak 28 35])))
def IW:aS:=
 .seq (.av [ih 40 39 38])
 (.seq (.cond (.t 40)
 (.skip)
 (.exit 2))
 (.seq (.block 3 (.seq (.av [ak 41 39,ak 9 41])
 (.seq (.draw [ak 42 8,ak 43 0,ak 44 9,ny 45 43 44,dd 46 45,ak 48 8,ak 49 1,ak 50 9,ny 51 49 50,dd 52 51,⟨some 47,.call 49 [(.t 42),(.t 46)],none,[42,46]⟩,⟨some 53,.call 49 [(.t 48),(.t 52)],none,[48,52]⟩,⟨some 54,.call 48 [(.t 47),(.t 53)],none,[47,53]⟩,nz 55 54] [(4,[10]),(9,[10,11])])
 (.cond (.t 55)
 (.seq (.av [jn 4,⟨some 5,.bz (.c (.int .i64 290)),none,[]⟩])
 (.ret))
 (.skip)))))
 (.av [fq 56 39,ak 39 56])))
def IX:aS:=
 .seq (.av [ih 68 67 66])
 (.seq (.cond (.t 68)
 (.skip)
 (.exit 4))
 (.seq (.block 5 (.seq (.av [rJ 69 65 67,bM 70 69,ak 13 70])
 (.seq (.av [ak 71 10,ak 72 8,ak 73 13,⟨some 74,.look .int .dX false (.t 72) (.t 73),none,[72,73]⟩,⟨some 75,.call 52 [(.t 71),(.t 74)],none,[71,74]⟩,nz 76 75])
 (.cond (.t 76)
 (.seq (.av [jn 4,⟨some 5,.bz (.c (.int .i64 291)),none,[]⟩])
 (.ret))
 (.skip)))))
 (.av [fq 77 67,ak 67 77])))
def IY:aS:=
 .seq (.av [ih 81 80 79])
 (.seq (.cond (.t 81)
 (.skip)
 (.exit 6))
 (.seq (.block 7 (.seq (.av [rJ 82 78 80,bM 83 82,ak 16 83])
 (.seq (.av [ak 84 8,ak 85 16,⟨some 86,.look .int .dX false (.t 84) (.t 85),none,[84,85]⟩,xO 87 86,ak 17 87])
 (.seq (.block 8 (.seq (.av [ak 89 17,ck 90 89,dQ 91 90,bM 92 91,nz 93 92,ak 94 93,ek 95 17 94,rK 96 95 94,⟨some 97,.e5 4 (.t 96),(some (94,true)),[96,94]⟩,fG 98 97 94,ek 99 16 94,u' 100 98 99 94,dU 101 94 100,ak 88 101])
 (.cond (.t 88)
 (.exit 7)
 (.seq (.av [ak 103 10,ck 104 103,gb 105 104,bM 106 105,ak 107 17,HQ 108 106 107,HR 109 108,ak 110 109,iY 111 10 110,Dc 112 111 110,Dd 113 112 110,va 114 113 110,iY 115 17 110,⟨some 116,.rh (.int .i64 0) false (.t 114) (.t 115),(some (110,false)),[114,115,110]⟩,⟨some 117,.bin (.int .gtr) (.t 116) (.c (.int .i64 200)),(some (110,false)),[116,110]⟩,iZ 118 110 117,ak 102 118])
 (.cond (.t 102)
 (.seq (.av [jn 4,⟨some 5,.bz (.c (.int .i64 3)),none,[]⟩])
 (.ret))
 (.skip))))))
 (.av [ak 119 14,ak 120 16,ak 121 17,⟨some 122,.call 54 [(.t 121)],none,[121]⟩,⟨some 123,.build [(.int .i64 0),(.int .i64 0),(.int .i64 0),(.str []),.bU] [(0,1,(.t 120)),(1,4,(.t 122))],none,[120,122]⟩,⟨some 124,.i_ 1 5 [(.int .i64 0),(.int .i64 0),(.int .i64 0),(.str []),.bU] [(0,5,(.t 123))],none,[123]⟩,⟨some 125,.app 5 (.t 119) (.t 124),none,[119,124]⟩,ak 14 125])))))
 (.av [fq 126 80,ak 80 126])))
def PL:aS:=
 .seq (.av [jn 4,ga 5])
 (.seq (.seq (.av [ak 18 0,fR 19 18,ak 20 1,fR 21 20,u_ 22 19 21])
 (.cond (.t 22)
 (.seq (.av [jn 4,Db 5])
 (.ret))
 (.skip)))
 (.seq (.seq (.av [ak 23 0,ak 24 1,⟨some 25,.i_ 2 1 [.bU] [(0,1,(.t 23)),(1,1,(.t 24))],none,[23,24]⟩,⟨some 26,.call 47 [(.t 25)],none,[25]⟩,fR 27 26,ga 28])
 (.block 0 (.loop IV)))
 (.seq (.av [vb 36,ak 8 36])
 (.seq (.seq (.av [ak 37 0,fR 38 37,ga 39])
 (.block 2 (.loop IW)))
 (.seq (.av [vb 57,vb 58,vb 59,⟨some 60,.build [.iS,.iS,.iS] [(0,1,(.t 57)),(1,1,(.t 58)),(2,1,(.t 59))],none,[57,58,59]⟩,hc 61 60,ak 10 61])
 (.seq (.av [ak 62 8,⟨some 63,.call 51 [(.t 62)],none,[62]⟩,⟨some 64,.call 50 [(.t 63)],none,[63]⟩,ak 11 64])
 (.seq (.seq (.av [ak 65 11,fR 66 65,ga 67])
 (.block 4 (.loop IX)))
 (.seq (.av [jn 14])
 (.seq (.seq (.av [ak 78 11,fR 79 78,ga 80])
 (.block 6 (.loop IY)))
 (.seq (.av [ak 127 14,ak 4 127,ga 5])
 (.ret)))))))))))
theorem aaC:ea 13 128 Tryz.f13 PL [.t 4,.t 5]:=⟨Tryz.func13,by kernel_rfl⟩
def P2:aS:=
 .seq (.seq (.av [ak 11 5,ak 12 0,fR 13 12,ih 14 11 13])
 (.cond (.t 14)
 (.skip)
 (.exit 0)))
 (.seq (.block 1 (.seq (.draw [ak 17 0,ak 18 5,De 19 17 18,gb 20 19,bM 21 20,ak 22 1,ak 23 5,De 24 22 23,gb 25 24,bM 26 25,u_ 27 21 26,ak 28 27,iY 29 0 28,iY 30 5 28,⟨some 31,.dD 5 (.t 29) (.t 30),(some (28,false)),[29,30,28]⟩,Dd 32 31 28,ti 33 32 28,iY 34 1 28,iY 35 5 28,⟨some 36,.dD 5 (.t 34) (.t 35),(some (28,false)),[34,35,28]⟩,Dd 37 36 28,ti 38 37 28,⟨some 39,.call 25 [(.t 33),(.t 38)],(some (28,false)),[33,38,28]⟩,⟨some 40,.un .not (.t 39),(some (28,false)),[39,28]⟩,iZ 41 28 40] [(4,[22]),(9,[22]),(16,[22]),(21,[22])])
 (.cond (.t 41)
 (.seq (.av [e' 4])
 (.ret))
 (.skip))))
 (.av [ak 15 5,fq 16 15,ak 5 16]))
def PW:aS:=
 .seq (.av [e' 4])
 (.seq (.seq (.av [ak 6 0,fR 7 6,ak 8 1,fR 9 8,u_ 10 7 9])
 (.cond (.t 10)
 (.seq (.av [e' 4])
 (.ret))
 (.skip)))
 (.seq (.seq (.av [ga 5])
 (.block 0 (.loop P2)))
 (.seq (.av [tj 4])
 (.ret))))
theorem aaP:ea 15 42 Tryz.f15 PW [.t 4]:=⟨Tryz.func15,by kernel_rfl⟩
def P3:aS:=
 .seq (.seq (.av [ak 11 5,ak 12 0,fR 13 12,ih 14 11 13])
 (.cond (.t 14)
 (.skip)
 (.exit 0)))
 (.seq (.block 1 (.seq (.draw [ak 17 0,ak 18 5,ny 19 17 18,dd 20 19,ak 21 1,ak 22 5,ny 23 21 22,dd 24 23,⟨some 25,.call 25 [(.t 20),(.t 24)],none,[20,24]⟩,nz 26 25] [(3,[8]),(7,[8])])
 (.cond (.t 26)
 (.seq (.av [e' 4])
 (.ret))
 (.skip))))
 (.av [ak 15 5,fq 16 15,ak 5 16]))
def tA:aS:=
 .seq (.av [e' 4])
 (.seq (.seq (.av [ak 6 0,fR 7 6,ak 8 1,fR 9 8,u_ 10 7 9])
 (.cond (.t 10)
 (.seq (.av [e' 4])
 (.ret))
 (.skip)))
 (.seq (.seq (.av [ga 5])
 (.block 0 (.loop P3)))
 (.seq (.av [tj 4])
 (.ret))))
theorem aaQ:ea 17 27 Tryz.f17 tA [.t 4]:=⟨Tryz.func17,by kernel_rfl⟩
def I2:aS:=
 .seq (.av [ak 5 9])
 (.av [ho 6,⟨none,.st 4 (.t 6) (.t 10),none,[6,10]⟩])
def I3:aS:=
 .block 1 (.seq (.seq (.av [dd 11 6,⟨some 12,.call 57 [(.t 11)],none,[11]⟩,nz 13 12])
 (.cond (.t 13)
 (.seq (.av [⟨none,.st 1 (.t 2) (.c (.int .i64 2)),none,[2]⟩])
 (.ret))
 (.skip)))
 (.seq (.av [bM 14 3,fq 15 14,⟨none,.st 1 (.t 3) (.t 15),none,[3,15]⟩])
 (.av [bM 16 4,ak 17 5,⟨some 18,.dV [(.t 16),(.t 17)],none,[16,17]⟩,⟨none,.st 1 (.t 4) (.t 18),none,[4,18]⟩])))
def I1:aS:=
 .seq (.av [hc 1 0,Aj 2])
 (.seq (.av [Aj 3,Aj 4,⟨none,.st 1 (.t 3) (.c (.int .i64 0)),none,[3]⟩,⟨none,.st 1 (.t 4) (.c (.int .i64 0)),none,[4]⟩])
 (.seq (.seq (.av [dd 7 1,⟨some 8,.call 56 [(.t 7)],none,[7]⟩])
 (.block 0 (aS.range (.t 8) [9,10] 25 I2 I3)))
 (.seq (.seq (.av [bM 19 3,HR 20 19,ak 21 20,va 22 4 21,⟨some 23,.bin (.int .gtr) (.t 22) (.c (.int .i64 200)),(some (21,false)),[22,21]⟩,iZ 24 21 23])
 (.cond (.t 24)
 (.seq (.av [⟨none,.st 1 (.t 2) (.c (.int .i64 3)),none,[2]⟩])
 (.ret))
 (.skip)))
 (.seq (.av [⟨none,.st 1 (.t 2) (.c (.int .i64 0)),none,[2]⟩])
 (.ret)))))
theorem aaS:gj Tryz.prog Tryz.f19.ntmps (Tryz.f19.body.getD .skip)=I1:=by kernel_rfl
theorem aaT:mu Tryz.prog Tryz.f19.ntmps Tryz.f19.results.toList=[.bS 2]:=by kernel_rfl
theorem aaR {args:List V} {h:ah} {K:V->ah->Prop} (az:Nat.ble args.length 25=true) (H:fZ Tryz.prog I1 (bc.bx args) h fun e r ab=>e.ends/\∃ad,n' (r et).list ab=some ad/\∃ag,kA r ad [.bS 2]=some ag/\K (oneOf ag) ad):c4 Tryz.prog 19 args h K:=
 QR follows wT Tryz.func19 (c:=Tryz.f19.body.getD .skip) (by kernel_rfl) (by kernel_rfl) (by kernel_rfl) az aaS aaT H
def P4:aS:=
 .seq (.seq (.av [ak 7 6,ak 8 0,fR 9 8,ih 10 7 9])
 (.cond (.t 10)
 (.skip)
 (.exit 0)))
 (.seq (.block 1 (.av [ak 13 5,ak 14 0,ak 15 6,De 16 14 15,dQ 17 16,dd 18 17,qv 19 18,th 20 13 19,ak 5 20]))
 (.av [ak 11 6,fq 12 11,ak 6 12]))
def c21:aS:=
 .seq (.av [e' 4])
 (.seq (.av [jn 5])
 (.seq (.seq (.av [ga 6])
 (.block 0 (.loop P4)))
 (.seq (.av [ak 21 5,ak 22 1,⟨some 23,.call 10 [(.t 21),(.t 22)],none,[21,22]⟩,ak 4 23])
 (.ret))))
theorem aaV:ea 21 24 Tryz.f21 c21 [.t 4]:=⟨Tryz.func21,by kernel_rfl⟩
def P6:aS:=
 .seq (.av [ih 16 15 14])
 (.seq (.cond (.t 16)
 (.skip)
 (.exit 0))
 (.seq (.block 1 (.seq (.av [De 17 13 15,⟨some 18,.ff 5 (.t 17),none,[17]⟩,⟨some 9,.new [(.int .i64 0),(.int .i64 0),(.int .i64 0),(.str []),.bU],none,[]⟩,⟨none,.st 5 (.t 9) (.t 18),none,[9,18]⟩])
 (.seq (.seq (.av [gb 19 9,bM 20 19,ak 21 7,⟨some 22,.bin (.int .leq) (.t 20) (.t 21),none,[20,21]⟩,ak 23 22,⟨some 24,.e5 0 (.t 9),(some (23,false)),[9,23]⟩,va 25 24 23,⟨some 26,.bin (.int .gtr) (.t 25) (.c (.int .i64 1048575)),(some (23,false)),[25,23]⟩,iZ 27 23 26,ak 28 27,Dd 29 9 28,ti 30 29 28,⟨some 31,.call 19 [(.t 30)],(some (28,false)),[30,28]⟩,HS 32 31 28,iZ 33 28 32])
 (.cond (.t 33)
 (.seq (.av [HT 34,⟨none,.st 4 (.t 4) (.t 34),none,[4,34]⟩,Db 5])
 (.ret))
 (.skip)))
 (.seq (.av [gb 35 9,bM 36 35,ak 7 36])
 (.av [ak 37 6,gb 38 9,bM 39 38,dQ 40 9,dd 41 40,⟨none,.eE .int (.t 37) (.t 39) (.t 41),none,[37,39,41]⟩])))))
 (.av [fq 42 15,ak 15 42])))
def P5:aS:=
 .seq (.av [hc 3 1,ho 4,ga 5])
 (.seq (.av [vb 12,ak 6 12])
 (.seq (.av [⟨some 7,.bz (.c (.int .i64 (-1))),none,[]⟩])
 (.seq (.seq (.av [ak 13 0,fR 14 13,ga 15])
 (.block 0 (.loop P6)))
 (.seq (.seq (.av [dd 43 3,⟨some 44,.call 19 [(.t 43)],none,[43]⟩,xN 45 44])
 (.cond (.t 45)
 (.seq (.av [HT 46,⟨none,.st 4 (.t 4) (.t 46),none,[4,46]⟩,Db 5])
 (.ret))
 (.skip)))
 (.seq (.av [Aj 10,⟨none,.st 1 (.t 10) (.c (.int .i64 4096)),none,[10]⟩])
 (.seq (.av [ak 47 6,dd 48 3,⟨some 49,.call 60 [(.t 47),(.t 48),(.t 10)],none,[47,48,10]⟩,ho 11,⟨none,.st 4 (.t 11) (.t 49),none,[11,49]⟩])
 (.seq (.seq (.av [bM 50 10,Ak 51 50,ak 52 51,ti 53 11 52,⟨some 54,.call 19 [(.t 53)],(some (52,false)),[53,52]⟩,HS 55 54 52,iZ 56 52 55])
 (.cond (.t 56)
 (.seq (.av [HT 57,⟨none,.st 4 (.t 4) (.t 57),none,[4,57]⟩,⟨some 5,.bz (.c (.int .i64 3)),none,[]⟩])
 (.ret))
 (.skip)))
 (.seq (.av [dd 58 11,⟨none,.st 4 (.t 4) (.t 58),none,[4,58]⟩,ga 5])
 (.ret)))))))))
theorem aaW:ea 23 59 Tryz.f23 P5 [.oG 4 4,.t 5]:=⟨Tryz.func23,by kernel_rfl⟩
def P7:aS:=
 .seq (.av [hc 2 0,hc 3 1,e' 4])
 (.seq (.av [gb 5 2,bM 6 5,gb 7 3,bM 8 7,⟨some 9,.bin (.int .eql) (.t 6) (.t 8),none,[6,8]⟩,ak 10 9,qx 11 2 10,fG 12 11 10,qx 13 3 10,fG 14 13 10,u' 15 12 14 10,dU 16 10 15,ak 17 16,tk 18 2 17,fG 19 18 17,tk 20 3 17,fG 21 20 17,Al 22 19 21 17,dU 23 17 22,ak 24 23,qy 25 2 24,fG 26 25 24,qy 27 3 24,fG 28 27 24,C_ 29 26 28 24,dU 30 24 29,ak 4 30])
 (.ret))
theorem aaX:ea 25 31 Tryz.f25 P7 [.t 4]:=⟨Tryz.func25,by kernel_rfl⟩
def P8:aS:=
 .seq (.av [hc 2 0,hc 3 1,e' 4])
 (.seq (.seq (.av [dd 7 2,⟨some 8,.call 19 [(.t 7)],none,[7]⟩,xN 9 8,ak 10 9,ti 11 3 10,⟨some 12,.call 19 [(.t 11)],(some (10,false)),[11,10]⟩,HS 13 12 10,iZ 14 10 13])
 (.cond (.t 14)
 (.seq (.av [e' 4])
 (.ret))
 (.skip)))
 (.seq (.av [vb 15,⟨some 5,.new [.iS],none,[]⟩,⟨none,.st 1 (.t 5) (.t 15),none,[5,15]⟩])
 (.seq (.av [⟨some 6,.new [.k'],none,[]⟩])
 (.seq (.av [⟨some 16,.fn 65 [(.t 5),(.t 6)],none,[5,6]⟩,⟨none,.st 1 (.t 6) (.t 16),none,[6,16]⟩])
 (.seq (.av [bM 17 6,dd 18 2,dd 19 3,Df 20 17 18 19,ak 4 20])
 (.ret))))))
theorem aaY:ea 27 21 Tryz.f27 P8 [.t 4]:=⟨Tryz.func27,by kernel_rfl⟩
def P9:aS:=
 .seq (.av [hc 2 0,hc 3 1,e' 4])
 (.seq (.av [gb 5 2,bM 6 5,gb 7 3,bM 8 7,⟨some 9,.bin (.int .eql) (.t 6) (.t 8),none,[6,8]⟩,ak 10 9,qx 11 2 10,fG 12 11 10,qx 13 3 10,fG 14 13 10,u' 15 12 14 10,dU 16 10 15,ak 17 16,tk 18 2 17,fG 19 18 17,tk 20 3 17,fG 21 20 17,Al 22 19 21 17,dU 23 17 22,ak 24 23,qy 25 2 24,fG 26 25 24,qy 27 3 24,fG 28 27 24,⟨some 29,.call 66 [(.t 26),(.t 28),(.c (.func 28 []))],(some (24,true)),[26,28,24]⟩,dU 30 24 29,ak 4 30])
 (.ret))
theorem aaZ:ea 28 31 Tryz.f28 P9 [.t 4]:=⟨Tryz.func28,by kernel_rfl⟩
def I5:aS:=
 .skip
def I6:aS:=
 .block 1 (.av [bM 8 3,fq 9 8,⟨none,.st 1 (.t 3) (.t 9),none,[3,9]⟩])
def I4:aS:=
 .seq (.av [hc 1 0,ga 2])
 (.seq (.av [Aj 3,⟨none,.st 1 (.t 3) (.c (.int .i64 0)),none,[3]⟩])
 (.seq (.seq (.av [dd 4 1,⟨some 5,.call 56 [(.t 4)],none,[4]⟩])
 (.block 0 (aS.range (.t 5) [6,7] 11 I5 I6)))
 (.seq (.av [bM 10 3,ak 2 10])
 (.ret))))
theorem aa1:gj Tryz.prog Tryz.f30.ntmps (Tryz.f30.body.getD .skip)=I4:=by kernel_rfl
theorem aa2:mu Tryz.prog Tryz.f30.ntmps Tryz.f30.results.toList=[.t 2]:=by kernel_rfl
theorem aa0 {args:List V} {h:ah} {K:V->ah->Prop} (az:Nat.ble args.length 11=true) (H:fZ Tryz.prog I4 (bc.bx args) h fun e r ab=>e.ends/\∃ad,n' (r et).list ab=some ad/\∃ag,kA r ad [.t 2]=some ag/\K (oneOf ag) ad):c4 Tryz.prog 30 args h K:=
 QR follows wT Tryz.func30 (c:=Tryz.f30.body.getD .skip) (by kernel_rfl) (by kernel_rfl) (by kernel_rfl) az aa1 aa2 H
def aa3:aS:=
 .av [ho 6,⟨none,.st 4 (.t 6) (.t 11),none,[6,11]⟩]
def aa4:aS:=
 .block 1 (.seq (.av [gb 12 6,bM 13 12,Am 14 13,ak 15 14,fG 16 4 15,qx 17 6 15,fG 18 17 15,⟨some 19,.look .int (.bool false) false (.t 16) (.t 18),(some (15,true)),[16,18,15]⟩,⟨some 20,.un .not (.t 19),(some (15,true)),[19,15]⟩,dU 21 15 20])
 (.cond (.t 21)
 (.seq (.av [bM 22 4,dQ 23 6,bM 24 23,⟨none,.eE .int (.t 22) (.t 24) (.c (.bool true)),none,[22,24]⟩])
 (.av [bM 25 3,dQ 26 6,bM 27 26,⟨some 28,.i_ 1 1 [(.int .i64 0)] [(0,1,(.t 27))],none,[27]⟩,Dg 29 25 28,⟨none,.st 1 (.t 3) (.t 29),none,[3,29]⟩]))
 (.skip)))
def c34:aS:=
 .seq (.av [hc 1 0,jn 2])
 (.seq (.av [⟨some 3,.new [.bU],none,[]⟩])
 (.seq (.av [vb 7,⟨some 4,.new [.iS],none,[]⟩,⟨none,.st 1 (.t 4) (.t 7),none,[4,7]⟩])
 (.seq (.seq (.av [dd 8 1,⟨some 9,.call 56 [(.t 8)],none,[8]⟩])
 (.block 0 (aS.range (.t 9) [10,11] 31 aa3 aa4)))
 (.seq (.av [bM 30 3,ak 2 30])
 (.ret)))))
def P':aS:=
 .seq (.av [hc 1 0,jn 2])
 (.seq (.av [dd 3 1,qv 4 3,ak 2 4])
 (.ret))
theorem aa5:ea 41 5 Tryz.f41 P' [.t 2]:=⟨Tryz.func41,by kernel_rfl⟩
def P_:aS:=
 .seq (.av [hc 3 1,ho 4,e' 5])
 (.seq (.av [ak 9 0,dd 10 3,Ai 11 9 10,ak 8 11,iH 12 8,h0 13 8,ho 6,⟨none,.st 4 (.t 6) (.t 12),none,[6,12]⟩,ak 7 13])
 (.seq (.av [dd 14 6,ak 15 7,xP 16 15,⟨none,.st 4 (.t 4) (.t 14),none,[4,14]⟩,ak 5 16])
 (.ret)))
theorem aa6:ea 45 17 Tryz.f45 P_ [.oG 4 4,.t 5]:=⟨Tryz.func45,by kernel_rfl⟩
def I8:aS:=
 .seq (.seq (.av [ak 7 6,ak 8 0,fR 9 8,ih 10 7 9,ak 11 10,ek 12 5 11,ek 13 1 11,⟨some 14,.bin (.int .leq) (.t 12) (.t 13),(some (11,true)),[12,13,11]⟩,dU 15 11 14])
 (.cond (.t 15)
 (.skip)
 (.exit 0)))
 (.seq (.block 1 (.seq (.av [ak 18 5,fq 19 18,ak 20 0,ak 21 6,ny 22 20 21,jo 23 22,bM 24 23,nA 25 24,⟨some 26,.bin (.int .quo) (.t 25) (.c (.int .i64 100)),none,[25]⟩,An 27 19 26,ak 5 27])
 (.av [ak 28 5,ak 29 0,ak 30 6,ny 31 29 30,jP 32 31,bM 33 32,ak 34 1,ak 35 5,Dh 36 34 35,⟨some 37,.call 46 [(.t 33),(.t 36)],none,[33,36]⟩,An 38 28 37,ak 5 38])))
 (.av [ak 16 6,fq 17 16,ak 6 17]))
def I7:aS:=
 .seq (.av [ga 4])
 (.seq (.av [ga 5])
 (.seq (.seq (.av [ga 6])
 (.block 0 (.loop I8)))
 (.seq (.av [ak 39 5,ak 4 39])
 (.ret))))
theorem Qa:ea 46 40 Tryz.f46 I7 [.t 4]:=⟨Tryz.func46,by kernel_rfl⟩
def I9:aS:=
 .seq (.av [ih 76 75 74])
 (.seq (.cond (.t 76)
 (.skip)
 (.exit 2))
 (.seq (.block 3 (.seq (.av [ak 77 75,ak 9 77])
 (.draw [ak 78 5,ak 79 7,ck 80 79,jP 81 80,bM 82 81,ak 83 9,rJ 84 82 83,bM 85 84,ak 86 8,ck 87 86,jP 88 87,bM 89 88,ak 90 9,rJ 91 89 90,bM 92 91,⟨some 93,.build [.dX,.dX] [(0,1,(.t 85)),(1,1,(.t 92))],none,[85,92]⟩,⟨some 94,.i_ 1 2 [.dX,.dX] [(0,2,(.t 93))],none,[93]⟩,⟨some 95,.app 2 (.t 78) (.t 94),none,[78,94]⟩,ak 5 95] [(4,[17]),(7,[17]),(11,[17]),(14,[17])])))
 (.av [fq 96 75,ak 75 96])))
def I':aS:=
 .seq (.seq (.av [ak 15 5,fR 16 15,⟨some 17,.bin (.int .gtr) (.t 16) (.c (.int .i64 0)),none,[16]⟩])
 (.cond (.t 17)
 (.skip)
 (.exit 0)))
 (.block 1 (.seq (.av [ak 18 5,ak 19 5,fR 20 19,Di 21 20,⟨some 22,.dD 2 (.t 18) (.t 21),none,[18,21]⟩,⟨some 23,.ff 2 (.t 22),none,[22]⟩,⟨some 6,.new [.dX,.dX],none,[]⟩,⟨none,.st 2 (.t 6) (.t 23),none,[6,23]⟩])
 (.seq (.av [ak 24 5,ak 25 5,fR 26 25,Di 27 26,⟨some 28,.fo 2 (.t 24) none (some (.t 27)) none,none,[24,27]⟩,ak 5 28])
 (.seq (.draw [⟨some 29,.o4 2 1 (.t 6) (.c (.int .i64 0)),none,[6]⟩,bM 30 29,⟨some 32,.o4 2 1 (.t 6) (.c (.int .i64 1)),none,[6]⟩,bM 33 32,xO 31 30,xO 34 33,ak 7 31,ak 8 34] [(1,[4]),(3,[4,5])])
 (.seq (.seq (.av [ak 35 7,ak 36 8,⟨some 37,.peq false (.t 35) (.t 36),none,[35,36]⟩])
 (.cond (.t 37)
 (.exit 1)
 (.skip)))
 (.seq (.seq (.av [ak 38 7,ck 39 38,dQ 40 39,bM 41 40,ak 42 41,ek 43 8 42,rK 44 43 42,qx 45 44 42,fG 46 45 42,dU 47 42 46])
 (.cond (.t 47)
 (.seq (.seq (.draw [ak 48 7,ck 49 48,jo 50 49,bM 51 50,ak 52 8,ck 53 52,jo 54 53,bM 55 54,⟨some 56,.bin (.str .neq) (.t 51) (.t 55),none,[51,55]⟩,ak 57 56,iY 58 7 57,Dc 59 58 57,⟨some 60,.e5 3 (.t 59),(some (57,false)),[59,57]⟩,va 61 60 57,⟨some 62,.len .slice (.t 61),(some (57,false)),[61,57]⟩,iY 63 8 57,Dc 64 63 57,⟨some 65,.e5 3 (.t 64),(some (57,false)),[64,57]⟩,va 66 65 57,⟨some 67,.len .slice (.t 66),(some (57,false)),[66,57]⟩,⟨some 68,.bin (.int .neq) (.t 62) (.t 67),(some (57,false)),[62,67,57]⟩,iZ 69 57 68] [])
 (.cond (.t 69)
 (.seq (.av [e' 4])
 (.ret))
 (.skip)))
 (.seq (.av [ak 70 7,ck 71 70,jP 72 71,bM 73 72,fR 74 73,ga 75])
 (.block 2 (.loop I9))))
 (.skip)))
 (.seq (.seq (.av [ak 97 8,ck 98 97,dQ 99 98,bM 100 99,nz 101 100])
 (.cond (.t 101)
 (.av [ak 102 8,ak 103 7,ak 7 102,ak 8 103])
 (.skip)))
 (.seq (.av [ak 104 8,ck 105 104,⟨some 106,.e5 4 (.t 105),none,[105]⟩,bM 107 106,ak 10 107])
 (.seq (.seq (.av [ak 108 10,Ak 109 108,ak 110 109,iY 111 7 110,Dc 112 111 110,⟨some 113,.e5 4 (.t 112),(some (110,false)),[112,110]⟩,va 114 113 110,⟨some 115,.bin (.int .geq) (.t 114) (.c (.int .i64 0)),(some (110,false)),[114,110]⟩,iY 116 115 110,ek 117 7 116,rK 118 117 116,⟨some 119,.e5 4 (.t 118),(some (116,true)),[118,116]⟩,fG 120 119 116,ek 121 10 116,⟨some 122,.bin (.int .lss) (.t 120) (.t 121),(some (116,true)),[120,121,116]⟩,⟨some 123,.pick (.t 116) (.t 122) (.c (.bool false)),(some (110,false)),[116,122,110]⟩,iZ 124 110 123])
 (.cond (.t 124)
 (.av [ak 125 7,ck 126 125,⟨some 127,.e5 4 (.t 126),none,[126]⟩,bM 128 127,ak 10 128])
 (.skip)))
 (.av [ak 129 7,ak 130 8,ak 131 8,ak 132 10,ck 133 129,gb 134 133,⟨none,.st 1 (.t 134) (.t 131),none,[134,131]⟩,ck 135 130,⟨some 136,.e5 4 (.t 135),none,[135]⟩,⟨none,.st 1 (.t 136) (.t 132),none,[136,132]⟩]))))))))))
def Qc:aS:=
 .seq (.av [e' 4])
 (.seq (.av [ak 11 0,ak 12 1,⟨some 13,.build [.dX,.dX] [(0,1,(.t 11)),(1,1,(.t 12))],none,[11,12]⟩,⟨some 14,.i_ 1 2 [.dX,.dX] [(0,2,(.t 13))],none,[13]⟩,ak 5 14])
 (.seq (.block 0 (.loop I'))
 (.seq (.av [tj 4])
 (.ret))))
theorem aa8:ea 48 137 Tryz.f48 Qc [.t 4]:=⟨Tryz.func48,by kernel_rfl⟩
def Qd:aS:=
 .seq (.av [ih 39 38 37])
 (.seq (.cond (.t 39)
 (.skip)
 (.exit 0))
 (.seq (.block 1 (.seq (.av [ny 40 36 38,dd 41 40,ho 9,⟨none,.st 4 (.t 9) (.t 41),none,[9,41]⟩])
 (.draw [ak 42 7,ak 43 7,ck 44 43,jP 45 44,bM 46 45,ak 47 0,dd 48 9,⟨some 49,.call 49 [(.t 47),(.t 48)],none,[47,48]⟩,⟨some 50,.i_ 1 1 [.dX] [(0,1,(.t 49))],none,[49]⟩,Dg 51 46 50,ck 52 42,jP 53 52,⟨none,.st 1 (.t 53) (.t 51),none,[53,51]⟩] [(4,[7,9]),(6,[7])])))
 (.av [fq 54 38,ak 38 54])))
def c49:aS:=
 .seq (.av [hc 3 1,⟨some 4,.bz (.c .dX),none,[]⟩])
 (.seq (.seq (.av [gb 10 3,bM 11 10,Am 12 11])
 (.cond (.t 12)
 (.seq (.av [ak 14 0,dQ 15 3,bM 16 15,⟨some 17,.look .int .dX true (.t 14) (.t 16),none,[14,16]⟩,ak 13 17,iH 18 13,h0 19 13,ak 5 18,ak 6 19])
 (.seq (.seq (.av [ak 20 6,nz 21 20])
 (.cond (.t 21)
 (.seq (.av [dQ 22 3,bM 23 22,⟨some 24,.build [.dX,(.bool false),(.str []),.bU,(.int .i64 0)] [(4,1,(.t 23))],none,[23]⟩,hc 25 24,ak 5 25])
 (.av [ak 26 0,dQ 27 3,bM 28 27,ak 29 5,⟨none,.eE .int (.t 26) (.t 28) (.t 29),none,[26,28,29]⟩]))
 (.skip)))
 (.seq (.av [ak 30 5,ak 4 30])
 (.ret))))
 (.skip)))
 (.seq (.av [jo 31 3,bM 32 31,⟨some 33,.build [.dX,(.bool false),(.str []),.bU,(.int .i64 0)] [(1,1,(.c (.bool true))),(2,1,(.t 32)),(4,1,(.c (.int .i64 (-1))))],none,[32]⟩,hc 34 33,ak 7 34])
 (.seq (.seq (.av [jP 35 3,bM 36 35,fR 37 36,ga 38])
 (.block 0 (.loop Qd)))
 (.seq (.av [ak 55 7,ak 4 55])
 (.ret)))))
theorem aa':ea 49 56 Tryz.f49 c49 [.t 4]:=⟨Tryz.func49,by kernel_rfl⟩
def c51:aS:=
 .seq (.av [hc 1 0,⟨some 2,.bz (.c .k'),none,[]⟩])
 (.seq (.av [⟨some 3,.fn 78 [(.t 1)],none,[1]⟩,ak 2 3])
 (.ret))
theorem abb:ea 51 4 Tryz.f51 c51 [.t 2]:=⟨Tryz.func51,by kernel_rfl⟩
def Qf:aS:=
 .seq (.av [ih 40 39 38])
 (.seq (.cond (.t 40)
 (.skip)
 (.exit 0))
 (.seq (.block 1 (.seq (.av [rJ 41 37 39,bM 42 41,ak 10 42])
 (.seq (.seq (.av [ak 43 0,ak 44 10,⟨some 45,.call 52 [(.t 43),(.t 44)],none,[43,44]⟩,nz 46 45])
 (.cond (.t 46)
 (.seq (.av [e' 4])
 (.ret))
 (.skip)))
 (.seq (.av [ak 47 10,xO 48 47,ak 10 48])
 (.seq (.av [ak 49 7,ak 50 0,ck 51 50,gb 52 51,bM 53 52,ak 54 10,HQ 55 53 54,An 56 49 55,⟨some 57,.wS [(.t 56),(.c (.int .i64 4097))],none,[56]⟩,ak 7 57])
 (.av [ak 58 8,ak 59 0,ck 60 59,dQ 61 60,bM 62 61,ak 63 10,HQ 64 62 63,⟨some 65,.dV [(.t 58),(.t 64)],none,[58,64]⟩,ak 8 65]))))))
 (.av [fq 66 39,ak 39 66])))
def Qe:aS:=
 .seq (.av [e' 4])
 (.seq (.av [ak 11 1,xO 12 11,ak 1 12])
 (.seq (.seq (.av [ak 14 0,ck 15 14,gb 16 15,bM 17 16,ak 18 1,⟨some 19,.rh (.int .i64 0) true (.t 17) (.t 18),none,[17,18]⟩,ak 13 19,iH 20 13,h0 21 13,ak 5 20,ak 6 21])
 (.seq (.av [ak 22 6])
 (.cond (.t 22)
 (.seq (.av [tj 4])
 (.ret))
 (.skip))))
 (.seq (.seq (.av [ak 23 0,ck 24 23,jo 25 24,bM 26 25,ak 27 1,⟨some 28,.rh (.bool false) false (.t 26) (.t 27),none,[26,27]⟩])
 (.cond (.t 28)
 (.seq (.av [e' 4])
 (.ret))
 (.skip)))
 (.seq (.av [ak 29 0,ck 30 29,jo 31 30,bM 32 31,ak 33 1,⟨none,.xn (.t 32) (.t 33) (.c (.bool true)),none,[32,33]⟩])
 (.seq (.av [⟨some 7,.bz (.c (.int .i64 1)),none,[]⟩,ga 8])
 (.seq (.seq (.av [ak 34 1,ck 35 34,jP 36 35,bM 37 36,fR 38 37,ga 39])
 (.block 0 (.loop Qf)))
 (.seq (.av [ak 67 0,ck 68 67,jo 69 68,bM 70 69,ak 71 1,⟨none,.xn (.t 70) (.t 71) (.c (.bool false)),none,[70,71]⟩])
 (.seq (.draw [ak 72 0,ck 73 72,gb 74 73,bM 75 74,ak 76 1,ak 77 0,ck 78 77,dQ 79 78,bM 80 79,ak 81 1,ak 82 7,ak 83 8,fq 84 83,⟨some 85,.wR (.int .i64 0) (.t 75) (.t 76),none,[75,76]⟩,h0 86 85,⟨none,.vK (.t 75) (.t 86) (.t 82),none,[75,86,82]⟩,⟨some 87,.wR (.int .i64 0) (.t 80) (.t 81),none,[80,81]⟩,h0 88 87,⟨none,.vK (.t 80) (.t 88) (.t 84),none,[80,88,84]⟩] [(3,[13]),(8,[13])])
 (.seq (.av [tj 4])
 (.ret))))))))))
theorem abc:ea 52 89 Tryz.f52 Qe [.t 4]:=⟨Tryz.func52,by kernel_rfl⟩
def Qh:aS:=
 .seq (.seq (.av [ak 5 3,ck 6 5,gb 7 6,bM 8 7,⟨some 9,.bin (.jx true 1) (.t 8) (.c .dX),none,[8]⟩])
 (.cond (.t 9)
 (.skip)
 (.exit 0)))
 (.block 1 (.av [ak 10 3,ck 11 10,gb 12 11,bM 13 12,ak 3 13]))
def Qi:aS:=
 .seq (.seq (.av [ak 14 0,ck 15 14,gb 16 15,bM 17 16,⟨some 18,.bin (.jx true 1) (.t 17) (.c .dX),none,[17]⟩])
 (.cond (.t 18)
 (.skip)
 (.exit 2)))
 (.block 3 (.av [ak 19 0,ak 20 0,ck 21 20,gb 22 21,bM 23 22,ak 24 3,ak 0 23,ck 25 19,gb 26 25,⟨none,.st 1 (.t 26) (.t 24),none,[26,24]⟩]))
def Qg:aS:=
 .seq (.av [⟨some 2,.bz (.c .dX),none,[]⟩])
 (.seq (.av [ak 4 0,ak 3 4])
 (.seq (.block 0 (.loop Qh))
 (.seq (.block 2 (.loop Qi))
 (.seq (.av [ak 27 3,ak 2 27])
 (.ret)))))
theorem abd:ea 53 28 Tryz.f53 Qg [.t 2]:=⟨Tryz.func53,by kernel_rfl⟩
def Qk:aS:=
 .seq (.av [ih 29 28 27])
 (.seq (.cond (.t 29)
 (.skip)
 (.exit 0))
 (.seq (.block 1 (.seq (.av [rJ 30 26 28,bM 31 30,ak 5 31])
 (.draw [jP 32 3,bM 33 32,ak 34 5,⟨some 35,.call 54 [(.t 34)],none,[34]⟩,qv 36 35,th 37 33 36,jP 38 3,⟨none,.st 1 (.t 38) (.t 37),none,[38,37]⟩] [(1,[3,5])])))
 (.av [fq 39 28,ak 28 39])))
def Qj:aS:=
 .seq (.av [ho 2])
 (.seq (.av [ak 6 0,xO 7 6,ak 0 7])
 (.seq (.seq (.av [ak 8 0,ck 9 8,dQ 10 9,bM 11 10,nz 12 11])
 (.cond (.t 12)
 (.seq (.av [ak 13 0,ck 14 13,⟨some 15,.e5 4 (.t 14),none,[14]⟩,bM 16 15,Da 17 16,⟨none,.st 4 (.t 2) (.t 17),none,[2,17]⟩])
 (.ret))
 (.skip)))
 (.seq (.av [ak 18 0,ck 19 18,jo 20 19,bM 21 20,⟨some 22,.build [(.int .i64 0),(.int .i64 0),(.str []),.bU] [(0,1,(.c (.int .i64 2))),(2,1,(.t 21))],none,[21]⟩,ho 3,⟨none,.st 4 (.t 3) (.t 22),none,[3,22]⟩])
 (.seq (.seq (.av [ak 23 0,ck 24 23,jP 25 24,bM 26 25,fR 27 26,ga 28])
 (.block 0 (.loop Qk)))
 (.seq (.av [dd 40 3,⟨none,.st 4 (.t 2) (.t 40),none,[2,40]⟩])
 (.ret))))))
theorem abe:ea 54 41 Tryz.f54 Qj [.oG 2 4]:=⟨Tryz.func54,by kernel_rfl⟩
def Ql:aS:=
 .seq (.av [hc 1 0,⟨some 2,.bz (.c .k'),none,[]⟩])
 (.seq (.av [⟨some 3,.fn 86 [(.t 1)],none,[1]⟩,ak 2 3])
 (.ret))
theorem abf:ea 56 4 Tryz.f56 Ql [.t 2]:=⟨Tryz.func56,by kernel_rfl⟩
def Qm:aS:=
 .seq (.av [hc 1 0,e' 2])
 (.seq (.seq (.av [gb 3 1,bM 4 3])
 (.block 0 (.seq (.av [Am 6 4,ak 5 6])
 (.cond (.t 5)
 (.seq (.av [dQ 7 1,bM 8 7,HU 9 8,ak 10 9,qx 11 1 10,fG 12 11 10,⟨some 13,.bin (.int .leq) (.t 12) (.c (.int .i64 1048575)),(some (10,true)),[12,10]⟩,dU 14 10 13,ak 15 14,tk 16 1 15,fG 17 16 15,⟨some 18,.bin (.str .eql) (.t 17) (.c (.str [])),(some (15,true)),[17,15]⟩,dU 19 15 18,ak 20 19,qy 21 1 20,fG 22 21 20,Dj 23 22 20,HO 24 23 20,dU 25 20 24,ak 2 25])
 (.ret))
 (.seq (.av [⟨some 27,.bin (.int .eql) (.t 4) (.c (.int .i64 2)),none,[4]⟩,ak 26 27])
 (.cond (.t 26)
 (.seq (.seq (.av [jo 28 1,bM 29 28,⟨some 30,.bin (.str .eql) (.t 29) (.c (.str [45,62])),none,[29]⟩,ak 31 30,⟨some 32,.e5 2 (.t 1),(some (31,false)),[1,31]⟩,va 33 32 31,⟨some 34,.bin (.str .eql) (.t 33) (.c (.str [42])),(some (31,false)),[33,31]⟩,iZ 35 31 34])
 (.cond (.t 35)
 (.seq (.av [dQ 36 1,bM 37 36,xP 38 37,ak 39 38,qy 40 1 39,fG 41 40 39,Dj 42 41 39,⟨some 43,.bin (.int .eql) (.t 42) (.c (.int .i64 2)),(some (39,true)),[42,39]⟩,dU 44 39 43,ak 2 44])
 (.ret))
 (.skip)))
 (.seq (.av [dQ 45 1,bM 46 45,xP 47 46,ak 48 47,qy 49 1 48,fG 50 49 48,Dj 51 50 48,⟨some 52,.bin (.int .leq) (.t 51) (.c (.int .i64 64)),(some (48,true)),[51,48]⟩,dU 53 48 52,ak 54 53,tk 55 1 54,fG 56 55 54,⟨some 57,.call 88 [(.t 56)],(some (54,true)),[56,54]⟩,dU 58 54 57,ak 2 58])
 (.ret)))
 (.skip)))))))
 (.seq (.av [e' 2])
 (.ret)))
theorem abg:ea 57 59 Tryz.f57 Qm [.t 2]:=⟨Tryz.func57,by kernel_rfl⟩
def Ja:aS:=
 .seq (.av [ih 45 44 43])
 (.seq (.cond (.t 45)
 (.skip)
 (.exit 0))
 (.seq (.block 1 (.seq (.av [ny 46 42 44,dd 47 46,ho 11,⟨none,.st 4 (.t 11) (.t 47),none,[11,47]⟩])
 (.seq (.seq (.av [ak 48 2,ck 49 48,bM 50 49,Ak 51 50])
 (.cond (.t 51)
 (.exit 0)
 (.skip)))
 (.draw [jP 52 4,bM 53 52,ak 54 0,dd 55 11,ak 56 2,⟨some 57,.call 60 [(.t 54),(.t 55),(.t 56)],none,[54,55,56]⟩,qv 58 57,th 59 53 58,jP 60 4,⟨none,.st 1 (.t 60) (.t 59),none,[60,59]⟩] [(1,[5,7]),(3,[5])]))))
 (.av [fq 61 44,ak 44 61])))
def Qn:aS:=
 .seq (.av [hc 4 1,ho 6])
 (.seq (.seq (.av [ak 13 0,dQ 14 4,bM 15 14,Of 16 13 15,ak 12 16,iH 17 12,h0 18 12,ho 7,⟨none,.st 4 (.t 7) (.t 17),none,[7,17]⟩,ak 8 18])
 (.seq (.av [ak 19 8,ak 20 19,Ao 21 4 20,fG 22 21 20,⟨some 23,.bin (.int .eql) (.t 22) (.c (.int .i64 1)),(some (20,true)),[22,20]⟩,dU 24 20 23])
 (.cond (.t 24)
 (.seq (.draw [ak 25 2,ck 26 25,bM 27 26,dd 28 7,⟨some 29,.call 30 [(.t 28)],none,[28]⟩,Dh 30 27 29,ck 31 25,⟨none,.st 1 (.t 31) (.t 30),none,[31,30]⟩] [(2,[4,7]),(3,[4])])
 (.seq (.av [dd 32 7,⟨some 33,.call 90 [(.t 32)],none,[32]⟩,⟨none,.st 4 (.t 6) (.t 33),none,[6,33]⟩])
 (.ret)))
 (.skip))))
 (.seq (.av [ak 34 2,ck 35 34,bM 36 35,Di 37 36,ck 38 34,⟨none,.st 1 (.t 38) (.t 37),none,[38,37]⟩])
 (.seq (.av [jP 39 4,bM 40 39,ak 9 40])
 (.seq (.av [jP 41 4,⟨none,.st 1 (.t 41) (.c .bU),none,[41]⟩])
 (.seq (.seq (.av [ak 42 9,fR 43 42,ga 44])
 (.block 0 (.loop Ja)))
 (.seq (.av [dd 62 4,⟨none,.st 4 (.t 6) (.t 62),none,[6,62]⟩])
 (.ret)))))))
theorem abh:ea 60 63 Tryz.f60 Qn [.oG 6 4]:=⟨Tryz.func60,by kernel_rfl⟩
def Qo:aS:=
 .seq (.av [hc 4 0,hc 5 1,e' 6])
 (.seq (.seq (.av [gb 9 4,bM 10 9,Am 11 10])
 (.cond (.t 11)
 (.seq (.av [bM 13 2,dQ 14 4,bM 15 14,Of 16 13 15,ak 12 16,iH 17 12,h0 18 12,ho 7,⟨none,.st 4 (.t 7) (.t 17),none,[7,17]⟩,ak 8 18])
 (.seq (.seq (.av [ak 19 8,nz 20 19])
 (.cond (.t 20)
 (.seq (.av [bM 21 2,dQ 22 4,bM 23 22,dd 24 5,⟨none,.eE .int (.t 21) (.t 23) (.t 24),none,[21,23,24]⟩])
 (.seq (.av [tj 6])
 (.ret)))
 (.skip)))
 (.seq (.av [dd 25 7,dd 26 5,⟨some 27,.call 28 [(.t 25),(.t 26)],none,[25,26]⟩,ak 6 27])
 (.ret))))
 (.skip)))
 (.seq (.av [gb 28 5,bM 29 28,gb 30 4,bM 31 30,⟨some 32,.bin (.int .eql) (.t 29) (.t 31),none,[29,31]⟩,ak 33 32,tk 34 4 33,fG 35 34 33,tk 36 5 33,fG 37 36 33,Al 38 35 37 33,dU 39 33 38,ak 40 39,qy 41 4 40,fG 42 41 40,qy 43 5 40,fG 44 43 40,fG 45 3 40,⟨some 46,.call 66 [(.t 42),(.t 44),(.t 45)],(some (40,true)),[42,44,45,40]⟩,dU 47 40 46,ak 6 47])
 (.ret)))
theorem abi:ea 65 48 Tryz.f65 Qo [.t 6]:=⟨Tryz.func65,by kernel_rfl⟩
def AS:aS:=
 .seq (.av [ih 18 17 16])
 (.seq (.cond (.t 18)
 (.skip)
 (.exit 0))
 (.seq (.block 1 (.seq (.av [ak 19 17,ny 20 15 17,dd 21 20,ho 8,ak 7 19,⟨none,.st 4 (.t 8) (.t 21),none,[8,21]⟩])
 (.seq (.av [ak 22 1,ak 23 7,ny 24 22 23,dd 25 24,ho 9,⟨none,.st 4 (.t 9) (.t 25),none,[9,25]⟩])
 (.seq (.av [ak 26 2,dd 27 8,dd 28 9,Df 29 26 27 28,nz 30 29])
 (.cond (.t 30)
 (.seq (.av [e' 6])
 (.ret))
 (.skip))))))
 (.av [fq 31 17,ak 17 31])))
def AR:aS:=
 .seq (.av [e' 6])
 (.seq (.seq (.av [ak 10 0,fR 11 10,ak 12 1,fR 13 12,u_ 14 11 13])
 (.cond (.t 14)
 (.seq (.av [e' 6])
 (.ret))
 (.skip)))
 (.seq (.seq (.av [ak 15 0,fR 16 15,ga 17])
 (.block 0 (.loop AS)))
 (.seq (.av [tj 6])
 (.ret))))
theorem D2:ea 66 32 Tryz.f66 AR [.t 6]:=⟨Tryz.func66,by kernel_rfl⟩
def Qq:aS:=
 .seq (.av [hc 2 0])
 (.seq (.av [⟨some 3,.new [.k'],none,[]⟩])
 (.seq (.av [⟨some 4,.fn 87 [(.t 2),(.t 3)],none,[2,3]⟩,⟨none,.st 1 (.t 3) (.t 4),none,[3,4]⟩])
 (.av [bM 5 3,dd 6 1,⟨some 7,.pL (.t 5) [(.c (.int .i64 1)),(.t 6)],none,[5,6]⟩])))
theorem abk:ea 86 8 Tryz.f86 Qq []:=⟨Tryz.func86,by kernel_rfl⟩
def Qs:aS:=
 .seq (.av [ih 18 17 16])
 (.seq (.cond (.t 18)
 (.skip)
 (.exit 0))
 (.seq (.block 1 (.seq (.av [ny 19 15 17,dd 20 19,ho 8,⟨none,.st 4 (.t 8) (.t 20),none,[8,20]⟩])
 (.seq (.av [bM 21 3,ak 22 0,fq 23 22,dd 24 8,Df 25 21 23 24,nz 26 25])
 (.cond (.t 26)
 (.seq (.av [e' 6])
 (.ret))
 (.skip)))))
 (.av [fq 27 17,ak 17 27])))
def Qr:aS:=
 .seq (.av [hc 5 1,e' 6])
 (.seq (.seq (.av [bM 9 2,ak 10 0,dd 11 5,Df 12 9 10 11,nz 13 12])
 (.cond (.t 13)
 (.seq (.av [e' 6])
 (.ret))
 (.skip)))
 (.seq (.seq (.av [jP 14 5,bM 15 14,fR 16 15,ga 17])
 (.block 0 (.loop Qs)))
 (.seq (.av [tj 6])
 (.ret))))
theorem abl:ea 87 28 Tryz.f87 Qr [.t 6]:=⟨Tryz.func87,by kernel_rfl⟩
def Qt:aS:=
 .seq (.av [e' 2])
 (.seq (.av [ak 6 0,⟨some 7,.call 104 [(.t 6)],none,[6]⟩,ak 5 7,iH 8 5,h0 9 5,⟨some 4,.new [(.int .i64 0),(.int .i64 0)],none,[]⟩,ak 3 8,⟨none,.st 2 (.t 4) (.t 9),none,[4,9]⟩])
 (.seq (.av [gb 10 4,bM 11 10,xP 12 11,ak 13 12,ek 14 3 13,Dj 15 14 13,⟨some 16,.bin (.int .eql) (.t 15) (.c (.int .i64 1)),(some (13,true)),[15,13]⟩,dU 17 13 16,ak 18 17,ek 19 3 18,⟨some 20,.dD 4 (.t 19) (.c (.int .i64 0)),(some (18,true)),[19,18]⟩,Ao 21 20 18,fG 22 21 18,⟨some 23,.bin (.int .eql) (.t 22) (.c (.int .i64 3)),(some (18,true)),[22,18]⟩,dU 24 18 23,ak 25 24,ek 26 3 25,⟨some 27,.dD 4 (.t 26) (.c (.int .i64 0)),(some (25,true)),[26,25]⟩,qy 28 27 25,fG 29 28 25,ek 30 0 25,Al 31 29 30 25,dU 32 25 31,ak 2 32])
 (.ret)))
theorem abm:ea 88 33 Tryz.f88 Qt [.t 2]:=⟨Tryz.func88,by kernel_rfl⟩
def Qw:aS:=
 .seq (.av [ih 12 11 10])
 (.seq (.cond (.t 12)
 (.skip)
 (.exit 0))
 (.seq (.block 1 (.seq (.av [ny 13 9 11,dd 14 13,ho 5,⟨none,.st 4 (.t 5) (.t 14),none,[5,14]⟩])
 (.draw [jP 15 1,bM 16 15,dd 17 5,⟨some 18,.call 90 [(.t 17)],none,[17]⟩,qv 19 18,th 20 16 19,jP 21 1,⟨none,.st 1 (.t 21) (.t 20),none,[21,20]⟩] [(1,[3,5]),(2,[3])])))
 (.av [fq 22 11,ak 11 22])))
def Qv:aS:=
 .seq (.av [hc 1 0,ho 2])
 (.seq (.av [jP 6 1,bM 7 6,ak 3 7])
 (.seq (.av [jP 8 1,⟨none,.st 1 (.t 8) (.c .bU),none,[8]⟩])
 (.seq (.seq (.av [ak 9 3,fR 10 9,ga 11])
 (.block 0 (.loop Qw)))
 (.seq (.av [dd 23 1,⟨none,.st 4 (.t 2) (.t 23),none,[2,23]⟩])
 (.ret)))))
theorem abn:ea 90 24 Tryz.f90 Qv [.oG 2 4]:=⟨Tryz.func90,by kernel_rfl⟩
def D0:aS:=
 .seq (.av [ih 12 11 10])
 (.seq (.cond (.t 12)
 (.skip)
 (.exit 0))
 (.seq (.block 1 (.seq (.av [rJ 13 9 11,bM 14 13,ak 5 14])
 (.seq (.av [ak 15 3,ak 16 5,fR 17 16,An 18 15 17,ak 3 18])
 (.seq (.av [ak 19 3,Ak 20 19])
 (.cond (.t 20)
 (.av [⟨some 21,.sx 9 (.c (.str [108,101,110,32,111,117,116,32,111,102,32,114,97,110,103,101])),none,[]⟩,⟨none,.bad,none,[21]⟩])
 (.skip))))))
 (.av [fq 22 11,ak 11 22])))
def D1:aS:=
 .seq (.av [ih 28 27 26])
 (.seq (.cond (.t 28)
 (.skip)
 (.exit 2))
 (.seq (.block 3 (.seq (.av [rJ 29 25 27,bM 30 29,ak 8 30])
 (.av [ak 31 6,ak 32 8,th 33 31 32,ak 6 33])))
 (.av [fq 34 27,ak 27 34])))
def Qb:aS:=
 .seq (.av [jn 2])
 (.seq (.av [ga 3])
 (.seq (.seq (.av [ak 9 0,fR 10 9,ga 11])
 (.block 0 (.loop D0)))
 (.seq (.av [ak 23 3,⟨some 24,.call 75 [(.c .bU),(.t 23)],none,[23]⟩,ak 6 24])
 (.seq (.seq (.av [ak 25 0,fR 26 25,ga 27])
 (.block 2 (.loop D1)))
 (.seq (.av [ak 35 6,ak 2 35])
 (.ret))))))
theorem aa7:ea 47 36 Tryz.f47 Qb [.t 2]:=⟨Tryz.func47,by kernel_rfl⟩
def Qp:aS:=
 .seq (.av [jn 4])
 (.seq (.seq (.av [ak 5 1,Ak 6 5])
 (.cond (.t 6)
 (.av [⟨some 7,.sx 9 (.c (.str [99,97,110,110,111,116,32,98,101,32,110,101,103,97,116,105,118,101])),none,[]⟩,⟨none,.bad,none,[7]⟩])
 (.skip)))
 (.seq (.seq (.av [ak 8 1,ak 9 0,⟨some 10,.tC (.t 9),none,[9]⟩,ak 11 0,fR 12 11,Dh 13 10 12,Dh 14 8 13,ak 1 14])
 (.seq (.av [ak 15 1,⟨some 16,.bin (.int .gtr) (.t 15) (.c (.int .i64 0)),none,[15]⟩])
 (.cond (.t 16)
 (.av [ak 17 0,ak 18 0,⟨some 19,.tC (.t 18),none,[18]⟩,⟨some 20,.fo 4 (.t 17) none (some (.t 19)) none,none,[17,19]⟩,ak 21 1,⟨some 22,.x3 4 [(.int .i64 0),(.int .i64 0),(.str []),.bU] (.t 20) (.t 21),none,[20,21]⟩,ak 23 0,fR 24 23,⟨some 25,.fo 4 (.t 22) none (some (.t 24)) none,none,[22,24]⟩,ak 0 25])
 (.skip))))
 (.seq (.av [ak 26 0,ak 4 26])
 (.ret))))
theorem abj:ea 75 27 Tryz.f75 Qp [.t 4]:=⟨Tryz.func75,by kernel_rfl⟩
def PB:aS:=
 .block 1 (.seq (.av [ak 24 5,ck 25 24,dQ 26 25,bM 27 26,ak 7 27])
 (.seq (.block 2 (.seq (.av [ak 37 7,ak 38 0,nA 39 38,Dk 40 37 39,ak 36 40])
 (.cond (.t 36)
 (.exit 0)
 (.seq (.av [ak 42 0,ak 43 7,⟨some 44,.lL (.t 42) (.t 43),none,[42,43]⟩,⟨some 45,.call 124 [(.c (.str [9,10,13,32])),(.t 44)],none,[44]⟩,HU 46 45,ak 41 46])
 (.cond (.t 41)
 (.av [ak 47 5,ck 48 47,dQ 49 48,bM 50 49,fq 51 50,ck 52 47,dQ 53 52,⟨none,.st 1 (.t 53) (.t 51),none,[53,51]⟩])
 (.seq (.av [ak 55 5,⟨some 56,.call 125 [(.t 55),(.c (.str [40,42]))],none,[55]⟩,ak 54 56])
 (.cond (.t 54)
 (.av [ak 57 5,⟨some 58,.call 126 [(.t 57)],none,[57]⟩])
 (.seq (.av [ak 28 5,⟨some 29,.call 127 [(.t 28)],none,[28]⟩,Ap 8,⟨none,.st 4 (.t 8) (.t 29),none,[8,29]⟩])
 (.seq (.av [ak 30 7,jo 31 8,⟨none,.st 1 (.t 31) (.t 30),none,[31,30]⟩])
 (.av [ak 32 6,dd 33 8,⟨some 34,.i_ 1 4 [(.int .i64 0),(.int .i64 0),(.int .i64 0),(.str [])] [(0,4,(.t 33))],none,[33]⟩,th 35 32 34,ak 6 35]))))))))))
 (.seq (.av [ak 59 5,ck 60 59,jo 61 60,bM 62 61,xN 63 62])
 (.cond (.t 63)
 (.seq (.draw [ak 64 5,ck 65 64,jo 66 65,bM 67 66,ak 68 7,⟨some 69,.build [(.int .i64 0),(.int .i64 0)] [(0,1,(.t 67)),(1,1,(.t 68))],none,[67,68]⟩,jn 2,⟨none,.st 2 (.t 3) (.t 69),none,[3,69]⟩] [(3,[7])])
 (.ret))
 (.skip)))))
def PA:aS:=
 .seq (.av [jn 2,⟨some 3,.new [(.int .i64 0),(.int .i64 0)],none,[]⟩])
 (.seq (.seq (.av [ak 9 0,nA 10 9,⟨some 11,.bin (.int .gtr) (.t 10) (.c (.int .i64 65536)),none,[10]⟩])
 (.cond (.t 11)
 (.seq (.av [⟨some 12,.build [(.int .i64 0),(.int .i64 0)] [(0,1,(.c (.int .i64 3)))],none,[]⟩,jn 2,⟨none,.st 2 (.t 3) (.t 12),none,[3,12]⟩])
 (.ret))
 (.skip)))
 (.seq (.seq (.av [ak 13 0,⟨some 14,.call 123 [(.t 13)],none,[13]⟩,ak 4 14])
 (.seq (.av [ak 15 4,ak 16 0,nA 17 16,ih 18 15 17])
 (.cond (.t 18)
 (.seq (.av [ak 19 4,⟨some 20,.build [(.int .i64 0),(.int .i64 0)] [(0,1,(.c (.int .i64 250))),(1,1,(.t 19))],none,[19]⟩,jn 2,⟨none,.st 2 (.t 3) (.t 20),none,[3,20]⟩])
 (.ret))
 (.skip))))
 (.seq (.av [ak 21 0,⟨some 22,.build [(.str []),(.int .i64 0),(.int .i64 0)] [(0,1,(.t 21))],none,[21]⟩,hc 23 22,ak 5 23])
 (.seq (.av [jn 6])
 (.seq (.skip)
 (.seq (.block 0 (.loop PB))
 (.seq (.av [ak 70 6,⟨some 71,.build [(.int .i64 0),(.int .i64 0)] [],none,[]⟩,ak 2 70,⟨none,.st 2 (.t 3) (.t 71),none,[3,71]⟩])
 (.ret))))))))
theorem aau:ea 104 72 Tryz.f104 PA [.t 2,.oG 3 2]:=⟨Tryz.func104,by kernel_rfl⟩
def PE:aS:=
 .seq (.av [⟨some 9,.zv (.t 8),none,[8]⟩,iH 10 9])
 (.seq (.cond (.t 10)
 (.skip)
 (.exit 0))
 (.block 1 (.seq (.av [h0 11 9,⟨some 12,.ext (.t 9) 2,none,[9]⟩,ak 3 11,ak 4 12])
 (.seq (.av [ak 13 4,⟨some 14,.bin (.int .eql) (.t 13) (.c (.int .i32 65533)),none,[13]⟩])
 (.cond (.t 14)
 (.seq (.av [ak 16 0,ak 17 3,HV 18 16 17,⟨some 19,.call 137 [(.t 18)],none,[18]⟩,ak 15 19,iH 20 15,h0 21 15,ak 5 20,ak 6 21])
 (.seq (.av [ak 22 6,Am 23 22])
 (.cond (.t 23)
 (.seq (.av [ak 24 3,ak 2 24])
 (.ret))
 (.skip))))
 (.skip))))))
def PD:aS:=
 .seq (.av [ga 2])
 (.seq (.seq (.av [ak 7 0,⟨some 8,.zL (.t 7),none,[7]⟩])
 (.block 0 (.loop PE)))
 (.seq (.av [ak 25 0,nA 26 25,ak 2 26])
 (.ret)))
theorem aav:ea 123 27 Tryz.f123 PD [.t 2]:=⟨Tryz.func123,by kernel_rfl⟩
def PF:aS:=
 .seq (.av [ga 4])
 (.seq (.av [ak 5 0,ak 6 1,⟨some 7,.call 138 [(.t 5),(.t 6)],none,[5,6]⟩,ak 4 7])
 (.ret))
theorem aaw:ea 124 8 Tryz.f124 PF [.t 4]:=⟨Tryz.func124,by kernel_rfl⟩
def PG:aS:=
 .seq (.av [e' 4])
 (.seq (.draw [ak 5 0,ck 6 5,gb 7 6,bM 8 7,ak 9 0,ck 10 9,dQ 11 10,bM 12 11,HV 13 8 12,ak 14 1,⟨some 15,.call 139 [(.t 13),(.t 14)],none,[13,14]⟩,ak 4 15] [(3,[10]),(7,[10])])
 (.ret))
theorem aax:ea 125 16 Tryz.f125 PG [.t 4]:=⟨Tryz.func125,by kernel_rfl⟩
def PI:aS:=
 .block 1 (.block 2 (.seq (.draw [ak 11 0,ck 12 11,dQ 13 12,bM 14 13,ak 15 0,ck 16 15,gb 17 16,bM 18 17,nA 19 18,Dk 20 14 19,ak 10 20] [])
 (.cond (.t 10)
 (.seq (.av [ak 21 0,ck 22 21,jo 23 22,⟨none,.st 1 (.t 23) (.c (.int .i64 253)),none,[23]⟩])
 (.ret))
 (.seq (.av [ak 25 0,⟨some 26,.call 125 [(.t 25),(.c (.str [40,42]))],none,[25]⟩,ak 24 26])
 (.cond (.t 24)
 (.seq (.av [ak 27 2,fq 28 27,ak 2 28])
 (.av [ak 29 0,ck 30 29,dQ 31 30,bM 32 31,⟨some 33,.bin (.int .add) (.t 32) (.c (.int .i64 2)),none,[32]⟩,ck 34 29,dQ 35 34,⟨none,.st 1 (.t 35) (.t 33),none,[35,33]⟩]))
 (.seq (.av [ak 37 0,⟨some 38,.call 125 [(.t 37),(.c (.str [42,41]))],none,[37]⟩,ak 36 38])
 (.cond (.t 36)
 (.seq (.av [ak 39 2,Di 40 39,ak 2 40])
 (.seq (.av [ak 41 0,ck 42 41,dQ 43 42,bM 44 43,⟨some 45,.bin (.int .add) (.t 44) (.c (.int .i64 2)),none,[44]⟩,ck 46 41,dQ 47 46,⟨none,.st 1 (.t 47) (.t 45),none,[47,45]⟩])
 (.seq (.av [ak 48 2,xP 49 48])
 (.cond (.t 49)
 (.ret)
 (.skip)))))
 (.av [ak 3 0,ck 4 3,dQ 5 4,bM 6 5,fq 7 6,ck 8 3,dQ 9 8,⟨none,.st 1 (.t 9) (.t 7),none,[9,7]⟩]))))))))
def PH:aS:=
 .seq (.av [ga 2])
 (.block 0 (.loop PI))
theorem aay:ea 126 50 Tryz.f126 PH []:=⟨Tryz.func126,by kernel_rfl⟩
def PK:aS:=
 .seq (.av [ih 80 79 78])
 (.seq (.cond (.t 80)
 (.skip)
 (.exit 1))
 (.seq (.block 2 (.seq (.av [rJ 81 77 79,bM 82 81,ak 5 82])
 (.seq (.av [ak 83 0,ak 84 5,⟨some 85,.call 125 [(.t 83),(.t 84)],none,[83,84]⟩])
 (.cond (.t 85)
 (.seq (.av [ak 86 0,ck 87 86,dQ 88 87,bM 89 88,ak 90 5,nA 91 90,An 92 89 91,ck 93 86,dQ 94 93,⟨none,.st 1 (.t 94) (.t 92),none,[94,92]⟩])
 (.seq (.av [ak 95 5,Og 96 95,⟨none,.st 4 (.t 2) (.t 96),none,[2,96]⟩])
 (.ret)))
 (.skip)))))
 (.av [fq 97 79,ak 79 97])))
def PJ:aS:=
 .seq (.av [Ap 2])
 (.seq (.draw [ak 6 0,ck 7 6,gb 8 7,bM 9 8,ak 10 0,ck 11 10,dQ 12 11,bM 13 12,⟨some 14,.lL (.t 9) (.t 13),none,[9,13]⟩,ak 3 14] [])
 (.seq (.block 0 (.seq (.av [ak 16 3,⟨some 17,.call 140 [(.t 16)],none,[16]⟩,ak 15 17])
 (.cond (.t 15)
 (.seq (.av [ak 18 0,⟨some 19,.call 141 [(.t 18)],none,[18]⟩,⟨none,.st 4 (.t 2) (.t 19),none,[2,19]⟩])
 (.ret))
 (.seq (.av [ak 21 3,⟨some 22,.bin (.int .eql) (.t 21) (.c (.int .u8 34)),none,[21]⟩,ak 20 22])
 (.cond (.t 20)
 (.seq (.av [ak 23 0,⟨some 24,.call 142 [(.t 23)],none,[23]⟩,⟨none,.st 4 (.t 2) (.t 24),none,[2,24]⟩])
 (.ret))
 (.seq (.av [ak 26 3,⟨some 27,.call 143 [(.t 26)],none,[26]⟩,ak 28 27,iY 29 3 28,⟨some 30,.bin (.int .eql) (.t 29) (.c (.int .u8 95)),(some (28,false)),[29,28]⟩,iZ 31 28 30,ak 25 31])
 (.cond (.t 25)
 (.seq (.av [ak 32 0,⟨some 33,.call 144 [(.t 32),(.c (.int .i64 3))],none,[32]⟩,⟨none,.st 4 (.t 2) (.t 33),none,[2,33]⟩])
 (.ret))
 (.seq (.av [ak 35 3,⟨some 36,.call 145 [(.t 35)],none,[35]⟩,ak 34 36])
 (.cond (.t 34)
 (.seq (.av [ak 37 0,⟨some 38,.call 144 [(.t 37),(.c (.int .i64 4))],none,[37]⟩,⟨none,.st 4 (.t 2) (.t 38),none,[2,38]⟩])
 (.ret))
 (.seq (.draw [ak 40 3,⟨some 41,.bin (.int .eql) (.t 40) (.c (.int .u8 39)),none,[40]⟩,ak 42 41,ek 43 0 42,rK 44 43 42,qx 45 44 42,fG 46 45 42,⟨some 47,.bin (.int .add) (.t 46) (.c (.int .i64 1)),(some (42,true)),[46,42]⟩,ek 48 0 42,rK 49 48 42,Ao 50 49 42,fG 51 50 42,⟨some 52,.len .str (.t 51),(some (42,true)),[51,42]⟩,⟨some 53,.bin (.int .lss) (.t 47) (.t 52),(some (42,true)),[47,52,42]⟩,dU 54 42 53,ak 55 54,ek 56 0 55,rK 57 56 55,Ao 58 57 55,fG 59 58 55,ek 60 0 55,rK 61 60 55,qx 62 61 55,fG 63 62 55,⟨some 64,.bin (.int .add) (.t 63) (.c (.int .i64 1)),(some (55,true)),[63,55]⟩,⟨some 65,.lL (.t 59) (.t 64),(some (55,true)),[59,64,55]⟩,⟨some 66,.call 143 [(.t 65)],(some (55,true)),[65,55]⟩,dU 67 55 66,ak 39 67] [(6,[26]),(11,[26]),(19,[26]),(23,[26])])
 (.cond (.t 39)
 (.seq (.av [ak 68 0,ck 69 68,dQ 70 69,bM 71 70,fq 72 71,ck 73 68,dQ 74 73,⟨none,.st 1 (.t 74) (.t 72),none,[74,72]⟩])
 (.seq (.av [ak 75 0,⟨some 76,.call 144 [(.t 75),(.c (.int .i64 5))],none,[75]⟩,⟨none,.st 4 (.t 2) (.t 76),none,[2,76]⟩])
 (.ret)))
 (.skip))))))))))))
 (.seq (.seq (.av [⟨some 77,.call 146 [],none,[]⟩,fR 78 77,ga 79])
 (.block 1 (.loop PK)))
 (.seq (.av [ak 98 0,ck 99 98,jo 100 99,⟨none,.st 1 (.t 100) (.c (.int .i64 251)),none,[100]⟩])
 (.seq (.av [HW 101,⟨none,.st 4 (.t 2) (.t 101),none,[2,101]⟩])
 (.ret))))))
theorem aaz:ea 127 102 Tryz.f127 PJ [.oG 2 4]:=⟨Tryz.func127,by kernel_rfl⟩
def c138:aS:=
 .seq (.av [ga 4])
 (.seq (.av [ak 5 0,ak 6 1,⟨some 7,.call 153 [(.t 5),(.t 6)],none,[5,6]⟩,ak 4 7])
 (.ret))
theorem aaA:ea 138 8 Tryz.f138 c138 [.t 4]:=⟨Tryz.func138,by kernel_rfl⟩
def PM:aS:=
 .seq (.av [e' 4])
 (.seq (.av [ak 5 0,ak 6 1,⟨some 7,.call 154 [(.t 5),(.t 6)],none,[5,6]⟩,ak 4 7])
 (.ret))
theorem aaB:ea 139 8 Tryz.f139 PM [.t 4]:=⟨Tryz.func139,by kernel_rfl⟩
def PN:aS:=
 .seq (.av [e' 2])
 (.seq (.av [ak 3 0,⟨some 4,.bin (.int .geq) (.t 3) (.c (.int .u8 48)),none,[3]⟩,ak 5 4,ek 6 0 5,⟨some 7,.bin (.int .leq) (.t 6) (.c (.int .u8 57)),(some (5,true)),[6,5]⟩,dU 8 5 7,ak 2 8])
 (.ret))
theorem aaE:ea 140 9 Tryz.f140 PN [.t 2]:=⟨Tryz.func140,by kernel_rfl⟩
def PO:aS:=
 .seq (.av [Ap 2])
 (.seq (.av [ak 7 0,⟨some 8,.call 156 [(.t 7),(.c (.func 140 []))],none,[7]⟩,⟨some 9,.call 155 [(.t 8),(.c (.int .i64 10)),(.c (.int .i64 64))],none,[8]⟩,ak 6 9,iH 10 6,h0 11 6,ak 3 10,ak 4 11])
 (.seq (.seq (.av [ak 12 4,⟨some 13,.bin (.jx true 5) (.t 12) (.c .nilIface),none,[12]⟩,ak 14 13,iY 15 3 14,⟨some 16,.bin (.int .gtr) (.t 15) (.c (.int .u64 2147483647)),(some (14,false)),[15,14]⟩,iZ 17 14 16])
 (.cond (.t 17)
 (.seq (.av [ak 18 0,ck 19 18,jo 20 19,⟨none,.st 1 (.t 20) (.c (.int .i64 254)),none,[20]⟩])
 (.seq (.av [HW 21,⟨none,.st 4 (.t 2) (.t 21),none,[2,21]⟩])
 (.ret)))
 (.skip)))
 (.seq (.av [ak 22 3,⟨some 23,.kf (.int .i64) (.t 22),none,[22]⟩,ak 5 23])
 (.seq (.seq (.av [ak 24 5,⟨some 25,.bin (.int .gtr) (.t 24) (.c (.int .i64 1073741823)),none,[24]⟩])
 (.cond (.t 25)
 (.av [ak 26 5,⟨some 27,.bin (.int .sub) (.t 26) (.c (.int .i64 2147483648)),none,[26]⟩,ak 5 27])
 (.skip)))
 (.seq (.av [ak 28 5,⟨some 29,.build [(.int .i64 0),(.int .i64 0),(.int .i64 0),(.str [])] [(0,1,(.c (.int .i64 1))),(1,1,(.t 28))],none,[28]⟩,⟨none,.st 4 (.t 2) (.t 29),none,[2,29]⟩])
 (.ret))))))
theorem aaF:ea 141 30 Tryz.f141 PO [.oG 2 4]:=⟨Tryz.func141,by kernel_rfl⟩
def PR:aS:=
 .seq (.seq (.av [ak 12 0,ck 13 12,jo 14 13,bM 15 14,xP 16 15])
 (.cond (.t 16)
 (.skip)
 (.exit 0)))
 (.block 1 (.seq (.seq (.draw [ak 17 0,ck 18 17,dQ 19 18,bM 20 19,ak 21 0,ck 22 21,gb 23 22,bM 24 23,nA 25 24,Dk 26 20 25] [])
 (.cond (.t 26)
 (.seq (.av [ak 27 0,ck 28 27,jo 29 28,⟨none,.st 1 (.t 29) (.c (.int .i64 252)),none,[29]⟩])
 (.exit 0))
 (.skip)))
 (.seq (.draw [ak 30 0,ck 31 30,gb 32 31,bM 33 32,ak 34 0,ck 35 34,dQ 36 35,bM 37 36,⟨some 38,.lL (.t 33) (.t 37),none,[33,37]⟩,ak 4 38] [])
 (.block 2 (.seq (.av [ak 51 4,⟨some 52,.bin (.int .eql) (.t 51) (.c (.int .u8 34)),none,[51]⟩,ak 50 52])
 (.cond (.t 50)
 (.seq (.av [ak 53 0,ck 54 53,dQ 55 54,bM 56 55,fq 57 56,ck 58 53,dQ 59 58,⟨none,.st 1 (.t 59) (.t 57),none,[59,57]⟩])
 (.seq (.seq (.av [ak 60 3,fR 61 60,HR 62 61])
 (.cond (.t 62)
 (.av [ak 63 0,ck 64 63,jo 65 64,⟨none,.st 1 (.t 65) (.c (.int .i64 255)),none,[65]⟩])
 (.skip)))
 (.seq (.av [ak 66 3,⟨some 67,.kf .str (.t 66),none,[66]⟩,⟨some 68,.build [(.int .i64 0),(.int .i64 0),(.int .i64 0),(.str [])] [(0,1,(.c (.int .i64 2))),(3,1,(.t 67))],none,[67]⟩,⟨none,.st 4 (.t 2) (.t 68),none,[2,68]⟩])
 (.ret))))
 (.seq (.av [ak 70 4,⟨some 71,.bin (.int .eql) (.t 70) (.c (.int .u8 92)),none,[70]⟩,ak 69 71])
 (.cond (.t 69)
 (.av [ak 72 3,ak 73 0,⟨some 74,.call 157 [(.t 73)],none,[73]⟩,⟨some 75,.i_ 1 1 [(.int .u8 0)] [(0,1,(.t 74))],none,[74]⟩,Dg 76 72 75,ak 3 76])
 (.seq (.av [ak 78 4,⟨some 79,.bin (.int .lss) (.t 78) (.c (.int .u8 32)),none,[78]⟩,ak 80 79,iY 81 4 80,⟨some 82,.bin (.int .eql) (.t 81) (.c (.int .u8 127)),(some (80,false)),[81,80]⟩,iZ 83 80 82,ak 77 83])
 (.cond (.t 77)
 (.av [ak 84 0,ck 85 84,jo 86 85,⟨none,.st 1 (.t 86) (.c (.int .i64 252)),none,[86]⟩])
 (.seq (.av [ak 39 0,ck 40 39,dQ 41 40,bM 42 41,fq 43 42,ck 44 39,dQ 45 44,⟨none,.st 1 (.t 45) (.t 43),none,[45,43]⟩])
 (.av [ak 46 3,ak 47 4,⟨some 48,.i_ 1 1 [(.int .u8 0)] [(0,1,(.t 47))],none,[47]⟩,Dg 49 46 48,ak 3 49]))))))))))))
def PQ:aS:=
 .seq (.av [Ap 2])
 (.seq (.av [ak 5 0,ck 6 5,dQ 7 6,bM 8 7,fq 9 8,ck 10 5,dQ 11 10,⟨none,.st 1 (.t 11) (.t 9),none,[11,9]⟩])
 (.seq (.av [jn 3])
 (.seq (.block 0 (.loop PR))
 (.seq (.av [HW 87,⟨none,.st 4 (.t 2) (.t 87),none,[2,87]⟩])
 (.ret)))))
theorem aaG:ea 142 88 Tryz.f142 PQ [.oG 2 4]:=⟨Tryz.func142,by kernel_rfl⟩
def PS:aS:=
 .seq (.av [e' 2])
 (.seq (.av [ak 3 0,⟨some 4,.bin (.int .geq) (.t 3) (.c (.int .u8 97)),none,[3]⟩,ak 5 4,ek 6 0 5,⟨some 7,.bin (.int .leq) (.t 6) (.c (.int .u8 122)),(some (5,true)),[6,5]⟩,dU 8 5 7,ak 2 8])
 (.ret))
theorem aaH:ea 143 9 Tryz.f143 PS [.t 2]:=⟨Tryz.func143,by kernel_rfl⟩
def PT:aS:=
 .seq (.av [Ap 4])
 (.seq (.av [ak 6 0,⟨some 7,.call 156 [(.t 6),(.c (.func 158 []))],none,[6]⟩,ak 5 7])
 (.seq (.block 0 (.seq (.av [ak 9 1,⟨some 10,.bin (.int .eql) (.t 9) (.c (.int .i64 3)),none,[9]⟩,ak 11 10,ek 12 5 11,⟨some 13,.bin (.str .eql) (.t 12) (.c (.str [95])),(some (11,true)),[12,11]⟩,dU 14 11 13,ak 8 14])
 (.cond (.t 8)
 (.seq (.av [ak 15 5,Og 16 15,⟨none,.st 4 (.t 4) (.t 16),none,[4,16]⟩])
 (.ret))
 (.seq (.av [ak 18 1,⟨some 19,.bin (.int .eql) (.t 18) (.c (.int .i64 3)),none,[18]⟩,ak 20 19,ek 21 5 20,⟨some 22,.bin (.str .add) (.c (.str [32])) (.t 21),(some (20,true)),[21,20]⟩,⟨some 23,.bin (.str .add) (.t 22) (.c (.str [32])),(some (20,true)),[22,20]⟩,⟨some 24,.call 159 [(.c (.str [32,97,110,100,32,98,101,103,105,110,32,101,108,115,101,32,101,110,100,32,101,120,99,101,112,116,105,111,110,32,102,97,108,115,101,32,102,117,110,32,105,102,32,105,110,32,108,101,116,32,109,97,116,99,104,32,109,111,100,32,111,102,32,114,97,105,115,101,32,114,101,99,32,116,104,101,110,32,116,114,117,101,32,116,114,121,32,116,121,112,101,32,119,105,116,104,32])),(.t 23)],(some (20,true)),[23,20]⟩,dU 25 20 24,ak 17 25])
 (.cond (.t 17)
 (.seq (.av [ak 26 5,⟨some 27,.build [(.int .i64 0),(.int .i64 0),(.int .i64 0),(.str [])] [(0,1,(.c (.int .i64 6))),(3,1,(.t 26))],none,[26]⟩,⟨none,.st 4 (.t 4) (.t 27),none,[4,27]⟩])
 (.ret))
 (.seq (.av [ak 29 5,nA 30 29,⟨some 31,.bin (.int .gtr) (.t 30) (.c (.int .i64 64)),none,[30]⟩,ak 28 31])
 (.cond (.t 28)
 (.av [ak 32 0,ck 33 32,jo 34 33,⟨none,.st 1 (.t 34) (.c (.int .i64 255)),none,[34]⟩])
 (.skip))))))))
 (.seq (.av [ak 35 1,ak 36 5,⟨some 37,.build [(.int .i64 0),(.int .i64 0),(.int .i64 0),(.str [])] [(0,1,(.t 35)),(3,1,(.t 36))],none,[35,36]⟩,⟨none,.st 4 (.t 4) (.t 37),none,[4,37]⟩])
 (.ret))))
theorem aaI:ea 144 38 Tryz.f144 PT [.oG 4 4]:=⟨Tryz.func144,by kernel_rfl⟩
def PU:aS:=
 .seq (.av [e' 2])
 (.seq (.av [ak 3 0,⟨some 4,.bin (.int .geq) (.t 3) (.c (.int .u8 65)),none,[3]⟩,ak 5 4,ek 6 0 5,⟨some 7,.bin (.int .leq) (.t 6) (.c (.int .u8 90)),(some (5,true)),[6,5]⟩,dU 8 5 7,ak 2 8])
 (.ret))
theorem aaJ:ea 145 9 Tryz.f145 PU [.t 2]:=⟨Tryz.func145,by kernel_rfl⟩
def PV:aS:=
 .seq (.av [jn 0])
 (.seq (.av [⟨some 1,.i_ 17 1 [(.str [])] [(0,1,(.c (.str [59,59]))),(1,1,(.c (.str [58,61]))),(2,1,(.c (.str [45,62]))),(3,1,(.c (.str [60,61]))),(4,1,(.c (.str [59]))),(5,1,(.c (.str [40]))),(6,1,(.c (.str [41]))),(7,1,(.c (.str [44]))),(8,1,(.c (.str [61]))),(9,1,(.c (.str [60]))),(10,1,(.c (.str [43]))),(11,1,(.c (.str [45]))),(12,1,(.c (.str [42]))),(13,1,(.c (.str [47]))),(14,1,(.c (.str [124]))),(15,1,(.c (.str [33]))),(16,1,(.c (.str [95])))],none,[]⟩,ak 0 1])
 (.ret))
theorem aaK:ea 146 2 Tryz.f146 PV [.t 0]:=⟨Tryz.func146,by kernel_rfl⟩
def PX:aS:=
 .seq (.av [e' 4])
 (.seq (.av [ak 5 0,nA 6 5,ak 7 1,nA 8 7,Dk 9 6 8,ak 10 9,ek 11 0 10,ek 12 1 10,⟨some 13,.len .str (.t 12),(some (10,true)),[12,10]⟩,⟨some 14,.rv (.t 11) none (some (.t 13)) none,(some (10,true)),[11,13,10]⟩,ek 15 1 10,Al 16 14 15 10,dU 17 10 16,ak 4 17])
 (.ret))
theorem aaL:ea 154 18 Tryz.f154 PX [.t 4]:=⟨Tryz.func154,by kernel_rfl⟩
def PZ:aS:=
 .seq (.seq (.draw [ak 10 0,ck 11 10,dQ 12 11,bM 13 12,ak 14 0,ck 15 14,gb 16 15,bM 17 16,nA 18 17,ih 19 13 18,ak 20 19,ek 21 1 20,ek 22 0 20,rK 23 22 20,Ao 24 23 20,fG 25 24 20,ek 26 0 20,rK 27 26 20,qx 28 27 20,fG 29 28 20,⟨some 30,.lL (.t 25) (.t 29),(some (20,true)),[25,29,20]⟩,⟨some 31,.pL (.t 21) [(.t 30)],(some (20,true)),[21,30,20]⟩,dU 32 20 31] [(3,[21]),(7,[21]),(15,[21]),(19,[21])])
 (.cond (.t 32)
 (.skip)
 (.exit 0)))
 (.block 1 (.av [ak 33 0,ck 34 33,dQ 35 34,bM 36 35,fq 37 36,ck 38 33,dQ 39 38,⟨none,.st 1 (.t 39) (.t 37),none,[39,37]⟩]))
def PY:aS:=
 .seq (.av [⟨some 4,.bz (.c (.str [])),none,[]⟩])
 (.seq (.av [ak 6 0,ck 7 6,dQ 8 7,bM 9 8,ak 5 9])
 (.seq (.block 0 (.loop PZ))
 (.seq (.draw [ak 40 0,ck 41 40,gb 42 41,bM 43 42,ak 44 5,ak 45 0,ck 46 45,dQ 47 46,bM 48 47,⟨some 49,.rv (.t 43) (some (.t 44)) (some (.t 48)) none,none,[43,44,48]⟩,ak 4 49] [])
 (.ret))))
theorem aaM:ea 156 50 Tryz.f156 PY [.t 4]:=⟨Tryz.func156,by kernel_rfl⟩
def P0:aS:=
 .seq (.av [⟨some 2,.bz (.c (.int .u8 0)),none,[]⟩])
 (.seq (.av [ak 7 0,ck 8 7,dQ 9 8,bM 10 9,fq 11 10,ck 12 7,dQ 13 12,⟨none,.st 1 (.t 13) (.t 11),none,[13,11]⟩])
 (.seq (.draw [ak 14 0,ck 15 14,gb 16 15,bM 17 16,ak 18 0,ck 19 18,dQ 20 19,bM 21 20,HV 22 17 21,ak 3 22] [])
 (.seq (.seq (.av [ak 23 3,⟨some 24,.bin (.str .neq) (.t 23) (.c (.str [])),none,[23]⟩])
 (.cond (.t 24)
 (.seq (.av [ak 25 3,⟨some 26,.lL (.t 25) (.c (.int .i64 0)),none,[25]⟩,⟨some 27,.call 124 [(.c (.str [110,116,34,92])),(.t 26)],none,[26]⟩,ak 4 27])
 (.seq (.av [ak 28 4,HU 29 28])
 (.cond (.t 29)
 (.seq (.av [ak 30 0,ck 31 30,dQ 32 31,bM 33 32,fq 34 33,ck 35 30,dQ 36 35,⟨none,.st 1 (.t 36) (.t 34),none,[36,34]⟩])
 (.seq (.av [ak 37 4,⟨some 38,.lL (.c (.str [10,9,34,92])) (.t 37),none,[37]⟩,ak 2 38])
 (.ret)))
 (.skip))))
 (.skip)))
 (.seq (.seq (.av [ak 39 3,nA 40 39,⟨some 41,.bin (.int .geq) (.t 40) (.c (.int .i64 3)),none,[40]⟩,ak 42 41,ek 43 3 42,⟨some 44,.lL (.t 43) (.c (.int .i64 0)),(some (42,true)),[43,42]⟩,⟨some 45,.call 140 [(.t 44)],(some (42,true)),[44,42]⟩,dU 46 42 45,ak 47 46,ek 48 3 47,⟨some 49,.lL (.t 48) (.c (.int .i64 1)),(some (47,true)),[48,47]⟩,⟨some 50,.call 140 [(.t 49)],(some (47,true)),[49,47]⟩,dU 51 47 50,ak 52 51,ek 53 3 52,⟨some 54,.lL (.t 53) (.c (.int .i64 2)),(some (52,true)),[53,52]⟩,⟨some 55,.call 140 [(.t 54)],(some (52,true)),[54,52]⟩,dU 56 52 55])
 (.cond (.t 56)
 (.seq (.av [ak 58 3,⟨some 59,.rv (.t 58) none (some (.c (.int .i64 3))) none,none,[58]⟩,⟨some 60,.call 166 [(.t 59)],none,[59]⟩,ak 57 60,iH 61 57,h0 62 57,ak 5 61,ak 6 62])
 (.seq (.av [ak 63 5,⟨some 64,.bin (.int .lss) (.t 63) (.c (.int .i64 256)),none,[63]⟩])
 (.cond (.t 64)
 (.seq (.av [ak 65 0,ck 66 65,dQ 67 66,bM 68 67,⟨some 69,.bin (.int .add) (.t 68) (.c (.int .i64 3)),none,[68]⟩,ck 70 65,dQ 71 70,⟨none,.st 1 (.t 71) (.t 69),none,[71,69]⟩])
 (.seq (.av [ak 72 5,⟨some 73,.kf (.int .u8) (.t 72),none,[72]⟩,ak 2 73])
 (.ret)))
 (.skip))))
 (.skip)))
 (.seq (.av [ak 74 0,ck 75 74,jo 76 75,⟨none,.st 1 (.t 76) (.c (.int .i64 252)),none,[76]⟩])
 (.seq (.av [⟨some 2,.bz (.c (.int .u8 0)),none,[]⟩])
 (.ret)))))))
theorem aaN:ea 157 77 Tryz.f157 P0 [.t 2]:=⟨Tryz.func157,by kernel_rfl⟩
def P1:aS:=
 .seq (.av [e' 2])
 (.seq (.av [ak 3 0,⟨some 4,.call 140 [(.t 3)],none,[3]⟩,ak 5 4,iY 6 0 5,⟨some 7,.call 143 [(.t 6)],(some (5,false)),[6,5]⟩,iZ 8 5 7,ak 9 8,iY 10 0 9,⟨some 11,.call 145 [(.t 10)],(some (9,false)),[10,9]⟩,iZ 12 9 11,ak 13 12,iY 14 0 13,⟨some 15,.bin (.int .eql) (.t 14) (.c (.int .u8 95)),(some (13,false)),[14,13]⟩,iZ 16 13 15,ak 17 16,iY 18 0 17,⟨some 19,.bin (.int .eql) (.t 18) (.c (.int .u8 39)),(some (17,false)),[18,17]⟩,iZ 20 17 19,ak 2 20])
 (.ret))
theorem aaO:ea 158 21 Tryz.f158 P1 [.t 2]:=⟨Tryz.func158,by kernel_rfl⟩
theorem sR {f:FuncId} {args:List V} {h:ah} {v:V} (c:c4 Tryz.prog f args h fun x ab=>x=v/\ab=h):gI Tryz.prog f args h v h:=by obtain ⟨x,ab,q,rfl,rfl⟩:=c;exact q
def nM (c:Int):Bool:=decide (48<=c)&&decide (c<=57)
def jj (c:Int):Bool:=decide (97<=c)&&decide (c<=122)
def oP (c:Int):Bool:=decide (65<=c)&&decide (c<=90)
def wL (c:Int):Bool:=nM c||jj c||oP c||decide (c=95)||decide (c=39)
theorem yb (c:Int) (h:ah):gI Tryz.prog 140 [.int .u8 c] h (.bool (nM c)) h:=by refine sR (aaE.z rfl (dF ?_));unfold PN;simp +contextual only [↓al,aK,simprocAttr];rfl
theorem GS (c:Int) (h:ah):gI Tryz.prog 143 [.int .u8 c] h (.bool (jj c)) h:=by refine sR (aaH.z rfl (dF ?_));unfold PS;simp +contextual only [↓al,aK,simprocAttr];rfl
theorem R2 (c:Int) (h:ah):gI Tryz.prog 145 [.int .u8 c] h (.bool (oP c)) h:=by refine sR (aaJ.z rfl (dF ?_));unfold PU;simp +contextual only [↓al,aK,simprocAttr];rfl
theorem aev (s p:List UInt8) (h:ah):gI Tryz.prog 154 [.str s,.str p] h (.bool (p.isPrefixOf s)) h:=by
 refine sR (aaL.z rfl (dF ?_));unfold PX;have a8:(0<=(p.length:Int))=True:=eq_true (by omega);by_cases az:p.length<=s.length
 . have aa:((p.length:Int)<=(s.length:Int))=True:=eq_true (by omega);simp +contextual only [a8,aa,Int.toNat_natCast,↓al,aK,simprocAttr];rw [Bool.eq_iff_iff,decide_eq_true_eq,List.isPrefixOf_iff_prefix,List.prefix_iff_eq_take];exact ⟨fun e=>e.symm,fun e=>e.symm⟩
 . have aa:((p.length:Int)<=(s.length:Int))=False:=eq_false (by omega);simp +contextual only [a8,aa,Int.toNat_natCast,↓al,aK,simprocAttr];rw [eq_comm,<-Bool.not_eq_true,List.isPrefixOf_iff_prefix];exact fun e=>az e.length_le
theorem aeu (s p:List UInt8) (h:ah):gI Tryz.prog 139 [.str s,.str p] h (.bool (p.isPrefixOf s)) h:=by refine sR (aaB.z rfl (dF ?_));unfold PM;simp +contextual only [↓al,aK,simprocAttr];refine h2 (aev s p h) ?_;simp +contextual only [↓al,aK,simprocAttr]
theorem ajW (c:Int) (h:ah):gI Tryz.prog 158 [.int .u8 c] h (.bool (wL c)) h:=by refine sR (aaO.z rfl (dF ?_));unfold P1;simp +contextual only [↓al,aK,simprocAttr];refine h2 (yb c h) ?_;simp +contextual only [↓al,aK,simprocAttr];refine RQ (.bool (jj c)) (fun aC=>by simp only [aC,↓al,aK,simprocAttr];exact GS _ _) ?_;simp +contextual only [↓al,aK,simprocAttr];refine RQ (.bool (oP c)) (fun aC=>by simp only [aC,↓al,aK,simprocAttr];exact R2 _ _) ?_;simp +contextual only [↓al,aK,simprocAttr];rfl
theorem J5 (s p:List UInt8) (at':Int) (rest:List V) (b:aO) (cX:Nat) (st:Bool) (h:ah) (ae:h.get b=.bx (.str s::.int .i64 at'::rest) cX st) (a8:0<=at') (aa:at'<=s.length):
 gI Tryz.prog 125 [.ptr b 0,.str p] h (.bool (p.isPrefixOf (s.drop at'.toNat))) h:=by
 refine sR (aax.z rfl (dF ?_));unfold PG;have f0:(0<=at')=True:=eq_true a8;have f1:(at'<=(s.length:Int))=True:=eq_true aa;simp +contextual only [ae,f0,f1,↓al,aK,simprocAttr];refine h2 (aeu _ p h) ?_;simp +contextual only [ae,f0,f1,↓al,aK,simprocAttr]
def ix:List UInt8->Int->Option Nat
 | [],_=>none
 | [_],_=>none
 | x::y::r,d=>if x=40/\y=42 then (ix r (d+1)).map (· +2) else if x=42/\y=41 then (if d-1=0 then some 2 else (ix r (d-1)).map (· +2)) else (ix (y::r) d).map (· +1)
theorem akV (r:List UInt8) (d:Int) (h:r≠[]):ix r d=if ([40,42]:List UInt8).isPrefixOf r=true then (ix (r.drop 2) (d+1)).map (· +2) else
 if ([42,41]:List UInt8).isPrefixOf r=true then (if d-1=0 then some 2 else (ix (r.drop 2) (d-1)).map (· +2)) else (ix (r.drop 1) d).map (· +1):=by
 match r,h with
 | [x],_=>simp [ix,List.isPrefixOf]
 | x::y::r,_=>
   have aN:(([40,42]:List UInt8).isPrefixOf (x::y::r)=true)=(x=40/\y=42):=by simp only [List.isPrefixOf,Bool.and_true,Bool.and_eq_true,beq_iff_eq];exact propext ⟨fun q=>⟨q.1.symm,q.2.symm⟩,fun q=>⟨q.1.symm,q.2.symm⟩⟩
   have aZ:(([42,41]:List UInt8).isPrefixOf (x::y::r)=true)=(x=42/\y=41):=by simp only [List.isPrefixOf,Bool.and_true,Bool.and_eq_true,beq_iff_eq];exact propext ⟨fun q=>⟨q.1.symm,q.2.symm⟩,fun q=>⟨q.1.symm,q.2.symm⟩⟩
   rw [ix];simp only [aN,aZ,List.drop_succ_cons,List.drop_zero]
theorem Vt {a b:UInt8} {r:List UInt8} (h:([a,b]:List UInt8).isPrefixOf r=true):2<=r.length:=by rw [List.isPrefixOf_iff_prefix] at h;simpa using h.length_le
def fg (s:List UInt8) (at' e:Int):b9:=.bx [.str s,.int .i64 at',.int .i64 e] 0 false
theorem akW (s:List UInt8) (a0:Nat) (cz:Int) (b:aO) (h:ah) (ae:h.get b=fg s a0 cz) (a8:a0<=s.length) (aM:s.length<=100000) (gQ:Old h b):
 c4 Tryz.prog 126 [.ptr b 0] h fun x ab=>x=.tuple []/\Mod (fun x=>x=b) h ab/\(match ix (s.drop a0) 0 with
  | some n=>ab.get b=fg s ((a0+n:Nat):Int) cz/\a0+n<=s.length
  | none=>ab.get b=fg s (s.length:Int) 253):=by
 refine aay.z rfl (dF ?_);unfold PH;unfold fg at ae ⊢;simp +contextual only [ae,↓al,aK,simprocAttr];refine gD (fun r ab=>∃(a:Nat) (d:Int),a0<=a/\a<=s.length/\r 0=.ptr b 0/\r 2=.int .i64 d/\ab.get b=.bx [.str s,.int .i64 a,.int .i64 cz] 0 false/\Mod (fun x=>x=b) h ab/\-(a:Int)<=d/\d<=a/\
  ix (s.drop a0) 0=(ix (s.drop a) d).map (· + (a-a0))) (fun r ab=>s.length - ((kI (ab.get b) 1).getD .bad).toN) ?_ ?_
 . refine ⟨a0,0,Nat.le_refl _,a8,?_⟩;simp only [↓al,aK,simprocAttr];refine ⟨ae,Mod.refl _ _,by omega,by omega,?_⟩;rw [Nat.sub_self];cases ix (s.drop a0) 0<;>rfl
 . rintro r ab ⟨a,d,jE,bK,bA,b3,aF,hm,d0,d1,bF⟩;unfold PI;by_cases gl:(s.length:Int)<=(a:Int)
   . have aV:a=s.length:=by omega
     have aQ:ix (s.drop a) d=none:=by rw [aV,List.drop_length];rfl
     rw [aQ] at bF;simp +contextual only [bA,b3,aF,gl,↓al,aK,simprocAttr];rw [bF];refine ⟨hm.set (fun _=>rfl) _,?_⟩;simp only [aV,Option.map_none,dv,if_true]
   . have cR:s.drop a≠[]:=by
      intro q;rw [List.drop_eq_nil_iff] at q;omega
     have Bx:∀p,gI Tryz.prog 125 [.ptr b 0,.str p] ab (.bool (p.isPrefixOf (s.drop a))) ab:=fun p=>by have:=J5 s p (a:Int) [.int .i64 cz] b 0 false ab aF (by omega) (by omega);simpa using this
     have hS:=akV (s.drop a) d cR;simp +contextual only [bA,b3,aF,gl,↓al,aK,simprocAttr];refine h2 (Bx _) ?_;cases h7:([40,42]:List UInt8).isPrefixOf (s.drop a) with
     | true=>
       have ad:=Vt h7;rw [List.length_drop] at ad;rw [h7,if_pos rfl] at hS;have bW:IntKind.i64.wrap (d+1)=d+1:=wrap_i64 (by omega) (by omega);have bV:IntKind.i64.wrap ((a:Int)+2)=((a+2:Nat):Int):=by rw [wrap_i64 (by omega) (by omega)];rfl
       simp +contextual only [bA,b3,aF,bW,bV,↓al,aK,simprocAttr];refine ⟨⟨a+2,d+1,by omega,by omega,rfl,rfl,hm.set (fun _=>rfl) _,by omega,by omega,?_⟩,by omega⟩;rw [bF,hS,List.drop_drop,Option.map_map];congr 1;funext q;simp only [Function.comp];omega
     | false=>
       rw [h7,if_neg (by decide)] at hS;simp +contextual only [bA,b3,aF,↓al,aK,simprocAttr];refine h2 (Bx _) ?_;cases hF:([42,41]:List UInt8).isPrefixOf (s.drop a) with
       | true=>
         have ad:=Vt hF;rw [List.length_drop] at ad;rw [hF,if_pos rfl] at hS;have bW:IntKind.i64.wrap (d-1)=d-1:=wrap_i64 (by omega) (by omega);have bV:IntKind.i64.wrap ((a:Int)+2)=((a+2:Nat):Int):=by rw [wrap_i64 (by omega) (by omega)];rfl
         by_cases bb:d-1=0
         . rw [if_pos bb] at hS;obtain rfl:d=1:=by omega
           have ay:IntKind.i64.wrap 0=0:=rfl;simp +contextual only [bA,b3,aF,ay,bV,↓al,aK,simprocAttr];rw [bF,hS];refine ⟨hm.set (fun _=>rfl) _,?_⟩;simp only [Option.map_some,dv,if_true];refine ⟨?_,by omega⟩;rw [show a0 + (2 + (a-a0))=a+2 from by omega]
         . rw [if_neg bb] at hS;simp +contextual only [bA,b3,aF,bW,bV,bb,↓al,aK,simprocAttr];refine ⟨⟨a+2,d-1,by omega,by omega,rfl,rfl,hm.set (fun _=>rfl) _,by omega,by omega,?_⟩,by omega⟩;rw [bF,hS,List.drop_drop,Option.map_map];congr 1;funext q;simp only [Function.comp];omega
       | false=>
         rw [hF,if_neg (by decide)] at hS;have bV:IntKind.i64.wrap ((a:Int)+1)=((a+1:Nat):Int):=by rw [wrap_i64 (by omega) (by omega)];rfl
         simp +contextual only [bA,b3,aF,bV,↓al,aK,simprocAttr];refine ⟨⟨a+1,d,by omega,by omega,rfl,rfl,hm.set (fun _=>rfl) _,by omega,by omega,?_⟩,by omega⟩;rw [bF,hS,List.drop_drop,Option.map_map];congr 1;funext q;simp only [Function.comp];omega
theorem drop_cons {s:List UInt8} {a:Nat} (h:a<s.length):s.drop a=s[a]::s.drop (a+1):=List.drop_eq_getElem_cons h
theorem Xb (p:UInt8->Bool):∀l:List UInt8,(l.takeWhile p).length<=l.length
 | []=>by simp
 | x::l=>by
   simp only [List.takeWhile_cons]
   split
   . simpa using Xb p l
   . simp
theorem Wo (s:List UInt8) (a0:Nat) (cz:Int) (b:aO) (g:FuncId) (p:Int->Bool) (h:ah) (ae:h.get b=fg s a0 cz) (a8:a0<=s.length) (aM:s.length<=100000) (a1:(g=4294967296)=False)
 (af:∀c h,gI Tryz.prog g [.int .u8 c] h (.bool (p c)) h):
 c4 Tryz.prog 156 [.ptr b 0,.func g []] h fun x ab=>x=.str ((s.drop a0).takeWhile fun c=>p c.toNat)/\Mod (fun x=>x=b) h ab/\ab.get b=fg s ((a0 + ((s.drop a0).takeWhile fun c=>p c.toNat).length:Nat):Int) cz:=by
 refine aaM.z rfl (dF ?_);unfold PY;unfold fg at ae ⊢;simp +contextual only [ae,↓al,aK,simprocAttr];refine gD (fun r ab=>∃(a:Nat),a0<=a/\a<=s.length/\r 0=.ptr b 0/\r 1=.func g []/\r 5=.int .i64 a0/\ab.get b=.bx [.str s,.int .i64 a,.int .i64 cz] 0 false/\Mod (fun x=>x=b) h ab/\
  ((s.drop a0).takeWhile fun c=>p c.toNat)=(s.drop a0).take (a-a0)++((s.drop a).takeWhile fun c=>p c.toNat)) (fun r ab=>s.length - ((kI (ab.get b) 1).getD .bad).toN) ?_ ?_
 . refine ⟨a0,Nat.le_refl _,a8,?_⟩;simp only [↓al,aK,simprocAttr];refine ⟨ae,Mod.refl _ _,?_⟩;rw [Nat.sub_self];rfl
 . rintro r ab ⟨a,jE,bK,bA,bD,dZ,aF,hm,bF⟩;unfold PZ;have fin:((s.drop a).takeWhile fun c=>p c.toNat)=[]->V.str (((s.drop a0).take (a-a0)))=V.str ((s.drop a0).takeWhile fun c=>p c.toNat)/\Mod (fun x=>x=b) h ab/\b9.bx [V.str s,V.int .i64 a,V.int .i64 cz] 0 false=b9.bx [V.str s,V.int .i64 ((a0 + ((s.drop a0).takeWhile fun c=>p c.toNat).length:Nat):Int),V.int .i64 cz] 0 false:=by
    intro q;rw [q,List.append_nil] at bF;rw [bF,List.length_take,List.length_drop];refine ⟨rfl,hm,?_⟩;rw [show a0+min (a-a0) (s.length-a0)=a from by omega]
   have f0:(0<=(a0:Int))=True:=eq_true (by omega);have f1:((a0:Int)<=(a:Int))=True:=eq_true (by omega);have f2:((a:Int)<=(s.length:Int))=True:=eq_true (by omega);have f3:(0<=(a:Int))=True:=eq_true (by omega);by_cases gl:(a:Int) < (s.length:Int)
   . have aT:a<s.length:=by omega
     rw [drop_cons aT,List.takeWhile_cons] at bF fin;simp +contextual only [a1,if_false,bA,bD,dZ,aF,gl,f0,f1,f2,f3,List.getElem?_eq_getElem aT,Int.toNat_natCast,↓al,aK,simprocAttr];refine h2 (af _ _) ?_;cases k5:p ((s[a]).toNat:Int) with
     | true=>
       rw [k5] at bF;have bV:IntKind.i64.wrap ((a:Int)+1)=((a+1:Nat):Int):=by rw [wrap_i64 (by omega) (by omega)];rfl
       simp +contextual only [k5,bA,bD,dZ,aF,gl,f0,f1,f2,f3,bV,List.getElem?_eq_getElem aT,Int.toNat_natCast,↓al,aK,simprocAttr];refine ⟨⟨a+1,by omega,by omega,rfl,hm.set (fun _=>rfl) _,?_⟩,by omega⟩;rw [bF,if_pos rfl];have KE:a-a0 < (s.drop a0).length:=by rw [List.length_drop];omega
       rw [show a+1-a0=a-a0+1 from by omega,<-List.take_append_getElem KE,List.append_assoc];congr 1;rw [List.getElem_drop];simp only [show a0 + (a-a0)=a from by omega];rfl
     | false=>
       rw [k5] at fin;simp +contextual only [k5,bA,bD,dZ,aF,gl,f0,f1,f2,f3,List.getElem?_eq_getElem aT,Int.toNat_natCast,↓al,aK,simprocAttr];exact fin rfl
   . have aV:a=s.length:=by omega
     simp +contextual only [a1,if_false,bA,bD,dZ,aF,gl,f0,f1,f2,f3,Int.toNat_natCast,↓al,aK,simprocAttr];refine fin ?_;rw [aV,List.drop_length];rfl
end
end Go.Proofs.YthemdhlheglhoaaGreatDoor
