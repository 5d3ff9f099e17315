/- The chapter's functions, walked by the abstract machine: plain lemmas, no condition. Printed by a program from longer texts: names made short. -/
import Derived.Test.YthemdhlheglhoaaGreatDoorM7
import Derived.Test.YthemdhlheglhoaaGreatDoorM4
import Derived.Test.YthemdhlheglhoaaGreatDoorM5
import Derived.WalkSmall
import Derived.Test.YthemdhlheglhoaaGreatDoorM6
import Derived.Shelf.Strings.Search3
import Derived.Shelf.Strings.OnBuilder
import Derived.Shelf.SlIterI.Nil
import Derived.Shelf.SortM.Plain
import Derived.Shelf.SortM.SortNone
import Derived.MakeChecks
import Derived.Shelf.Vars
import Derived.Lay
import Derived.LaidLaws
import Derived.Lib.LaidTab
import Derived.Lib.LaidU8T
import Derived.Test.YthemdhlheglhoaaGreatDoorRows
set_option linter.unusedSectionVars false
set_option linter.unusedSimpArgs false
set_option linter.unusedVariables false
set_option maxHeartbeats 64000000
noncomputable section
namespace Go.Proofs.YthemdhlheglhoaaGreatDoor
section
open Go a7 Go.RowKit
theorem AX {w:World} {p:Addr} {v:Value} (h:w.cell? p=some v):p.block<w.heap.size:=by
 unfold World.cell? at h;by_cases q:p.block<w.heap.size
 . exact q
 . rw [Array.getElem?_eq_none (by omega)] at h;cases h
def xQ (w:World) (g:Nat):Prop:=∃aT,w.cell? ⟨g,0,none⟩=some aT/\(aT=.nilIface\/∃Hb VD,aT=.iface Hb VD)
theorem xQ.gT {w ao:World} {g:Nat} (h:xQ w g) (ae:Below w.heap.size w ao):xQ ao g:=by obtain ⟨aT,aa,ad⟩:=h;exact ⟨aT,by rw [ae.cell (AX aa)];exact aa,ad⟩
structure HW (w:World):Prop where
 XK:Lib.Utf8Tabs 2 3 w
 maxLen:∃m,w.cell? ⟨0,0,none⟩=some (.int .i64 m)
 RR:xQ w 7
 VL:Lib.TabIs Tryz.prog w "internal/strconv.uint64pow10" .u64 Lib.pow10Tab
instance lay:Lay where
 ok w:=HW w
 gT:=by
  intro w ao h ae;refine ⟨?_,?_,h.RR.gT ae,?_⟩
  . obtain ⟨aa,ad⟩:=h.XK;refine ⟨fun c aD=>?_,fun i an=>?_⟩
    . rw [ae.cell (AX (aa c aD))];exact aa c aD
    . obtain ⟨ar,av⟩:=ad i an;rw [ae.cell (AX ar),ae.cell (AX av)];exact ⟨ar,av⟩
  . obtain ⟨m,q⟩:=h.maxLen;exact ⟨m,by rw [ae.cell (AX q)];exact q⟩
  . have aB:Tryz.prog.globalNamed "internal/strconv.uint64pow10"=some 1:=by kernel_rfl
    have ay:1<w.heap.size:=by
     have q:=h.VL;unfold Lib.TabIs World.var? at q;rw [aB] at q;by_cases aO:1<w.heap.size
     . exact aO
     . simp only [Option.bind_some] at q;rw [Array.getElem?_eq_none (by omega)] at q;cases q
    exact var?_below ae aB ay h.VL
section
open Go.Shelf
def Tryz.ajB:Go.Shelf.Ren:=⟨fun | 144=>159 | 143=>167 | 219=>177 | 217=>138 | 225=>181 | 224=>182 | 267=>183 | 266=>153 | 314=>184 | n=>n,fun | 9=>9 | 4=>4 | 3=>3 | 5=>5 | 46=>141 | 146=>221 | 51=>164 | n=>n,fun | 1=>0 | n=>n⟩
theorem Tryz.ajA:Go.Proofs.Lays.n144 Tryz.prog Tryz.ajB:={
 mixed:=by kernel_rfl,
 f143:=Tryz.func167.trans (congrArg some (by kernel_rfl)),
 f144:=Tryz.func159.trans (congrArg some (by kernel_rfl)),
 f217:=Tryz.func138.trans (congrArg some (by kernel_rfl)),
 f219:=Tryz.func177.trans (congrArg some (by kernel_rfl)),
 f224:=Tryz.func182.trans (congrArg some (by kernel_rfl)),
 f225:=Tryz.func181.trans (congrArg some (by kernel_rfl)),
 f266:=Tryz.func153.trans (congrArg some (by kernel_rfl)),
 f267:=Tryz.func183.trans (congrArg some (by kernel_rfl)),
 f314:=Tryz.func184.trans (congrArg some (by kernel_rfl)),
 t3:=Tryz.underlying3,
 a3:=Tryz.isAgg3,
 z3:=Tryz.sizeOf3,
 v3:=Tryz.zeroValue3,
 t4:=Tryz.underlying4,
 a4:=Tryz.isAgg4,
 z4:=Tryz.sizeOf4,
 v4:=Tryz.zeroValue4,
 t5:=Tryz.underlying5,
 a5:=Tryz.isAgg5,
 z5:=Tryz.sizeOf5,
 v5:=Tryz.zeroValue5,
 t9:=Tryz.underlying9,
 a9:=Tryz.isAgg9,
 z9:=Tryz.sizeOf9,
 v9:=Tryz.zeroValue9,
 t46:=Tryz.underlying141,
 a46:=Tryz.isAgg141,
 z46:=Tryz.sizeOf141,
 v46:=Tryz.zeroValue141,
 t51:=Tryz.underlying164,
 a51:=Tryz.isAgg164,
 z51:=Tryz.sizeOf164,
 v51:=Tryz.zeroValue164,
 t146:=Tryz.underlying221,
 a146:=Tryz.isAgg221,
 z146:=Tryz.sizeOf221,
 v146:=Tryz.zeroValue221,
 g1:=by kernel_rfl}
def Tryz.T9:Go.Shelf.Ren:=⟨fun | 156=>72 | 165=>95 | 166=>96 | 169=>97 | 240=>110 | 241=>111 | 276=>129 | 277=>130 | n=>n,fun | 31=>98 | 9=>9 | 3=>3 | 4=>4 | 0=>0 | 20=>20 | 72=>130 | 76=>134 | 70=>127 | 37=>128 | 75=>133 | 127=>155 | 164=>174 | 5=>5 | 80=>136 | n=>n,fun | n=>n⟩
theorem Tryz.T8:Go.Proofs.Lays.n156 Tryz.prog Tryz.T9:={
 mixed:=by kernel_rfl,
 f156:=Tryz.func72.trans (congrArg some (by kernel_rfl)),
 f165:=Tryz.func95.trans (congrArg some (by kernel_rfl)),
 f166:=Tryz.func96.trans (congrArg some (by kernel_rfl)),
 f169:=Tryz.func97.trans (congrArg some (by kernel_rfl)),
 f240:=Tryz.func110.trans (congrArg some (by kernel_rfl)),
 f241:=Tryz.func111.trans (congrArg some (by kernel_rfl)),
 f276:=Tryz.func129.trans (congrArg some (by kernel_rfl)),
 f277:=Tryz.func130.trans (congrArg some (by kernel_rfl)),
 t0:=Tryz.underlying0,
 a0:=Tryz.isAgg0,
 z0:=Tryz.sizeOf0,
 v0:=Tryz.zeroValue0,
 t3:=Tryz.underlying3,
 a3:=Tryz.isAgg3,
 z3:=Tryz.sizeOf3,
 v3:=Tryz.zeroValue3,
 t4:=Tryz.underlying4,
 a4:=Tryz.isAgg4,
 z4:=Tryz.sizeOf4,
 v4:=Tryz.zeroValue4,
 t9:=Tryz.underlying9,
 a9:=Tryz.isAgg9,
 z9:=Tryz.sizeOf9,
 v9:=Tryz.zeroValue9,
 t20:=Tryz.underlying20,
 a20:=Tryz.isAgg20,
 z20:=Tryz.sizeOf20,
 v20:=Tryz.zeroValue20,
 t31:=Tryz.underlying98,
 a31:=Tryz.isAgg98,
 z31:=Tryz.sizeOf98,
 v31:=Tryz.zeroValue98,
 t37:=Tryz.underlying128,
 a37:=Tryz.isAgg128,
 z37:=Tryz.sizeOf128,
 v37:=Tryz.zeroValue128,
 t70:=Tryz.underlying127,
 a70:=Tryz.isAgg127,
 z70:=Tryz.sizeOf127,
 v70:=Tryz.zeroValue127,
 t72:=Tryz.underlying130,
 a72:=Tryz.isAgg130,
 z72:=Tryz.sizeOf130,
 v72:=Tryz.zeroValue130,
 t75:=Tryz.underlying133,
 a75:=Tryz.isAgg133,
 z75:=Tryz.sizeOf133,
 v75:=Tryz.zeroValue133,
 t76:=Tryz.underlying134,
 a76:=Tryz.isAgg134,
 z76:=Tryz.sizeOf134,
 v76:=Tryz.zeroValue134,
 t127:=Tryz.underlying155,
 a127:=Tryz.isAgg155,
 z127:=Tryz.sizeOf155,
 v127:=Tryz.zeroValue155,
 t164:=Tryz.underlying174,
 a164:=Tryz.isAgg174,
 z164:=Tryz.sizeOf174,
 v164:=Tryz.zeroValue174}
theorem Tryz.RT:Builder.Extra Tryz.prog Tryz.T9 where
 sizeBuilder:=by kernel_rfl
 liesBuilder:=by kernel_rfl
 t5:=Tryz.underlying5
 a5:=Tryz.isAgg5
 z5:=Tryz.sizeOf5
 v5:=Tryz.zeroValue5
 infoByte:=by kernel_rfl
 cellsByte:=by kernel_rfl
 sizeByte:=by kernel_rfl
 neB5:=by decide
def Tryz.T1:Go.Shelf.Ren:=⟨fun | 7=>51 | 10=>78 | n=>n,fun | 23=>65 | 26=>3 | 3=>67 | 28=>76 | 0=>0 | 27=>75 | 33=>111 | 4=>4 | n=>n,fun | n=>n⟩
theorem Tryz.aiv:Go.Proofs.SlLaysZI.n7 Tryz.prog Tryz.T1 where
 mixed:=by kernel_rfl
 f7:=⟨"maps.Keys[gimlet/types.maker,int,*gimlet/types.node]",by decide,Tryz.func51.trans (congrArg some (by kernel_rfl))⟩
 f10:=⟨"maps.Keys[gimlet/types.maker,int,*gimlet/types.node]$1",by decide,Tryz.func78.trans (congrArg some (by kernel_rfl))⟩
 t0:=Tryz.underlying0
 a0:=Tryz.isAgg0
 z0:=Tryz.sizeOf0
 v0:=Tryz.zeroValue0
 t4:=Tryz.underlying4
 a4:=Tryz.isAgg4
 z4:=Tryz.sizeOf4
 v4:=Tryz.zeroValue4
 t23:=Tryz.underlying65
 a23:=Tryz.isAgg65
 z23:=Tryz.sizeOf65
 v23:=Tryz.zeroValue65
 t26:=Tryz.underlying3
 a26:=Tryz.isAgg3
 z26:=Tryz.sizeOf3
 v26:=Tryz.zeroValue3
 t27:=Tryz.underlying75
 a27:=Tryz.isAgg75
 z27:=Tryz.sizeOf75
 v27:=Tryz.zeroValue75
 t28:=Tryz.underlying76
 a28:=Tryz.isAgg76
 z28:=Tryz.sizeOf76
 v28:=Tryz.zeroValue76
 t33:=Tryz.underlying111
 a33:=Tryz.isAgg111
 z33:=Tryz.sizeOf111
 v33:=Tryz.zeroValue111
def Tryz.W3:Go.Shelf.Ren:=⟨fun | 6=>50 | 8=>76 | 9=>77 | 11=>100 | 13=>102 | 12=>101 | 23=>121 | 24=>122 | 14=>112 | 15=>113 | 16=>114 | 17=>115 | 18=>116 | 19=>117 | 20=>118 | 21=>119 | 22=>120 | 25=>131 | 26=>132 | 27=>133 | 28=>134 | 29=>135 | 30=>136 | 31=>151 | n=>n,fun | 26=>3 | 28=>76 | 24=>51 | 0=>0 | 3=>3 | 37=>141 | 48=>164 | 50=>166 | 4=>4 | 40=>158 | 39=>157 | 45=>112 | 5=>5 | 9=>9 | 51=>177 | 55=>90 | 57=>190 | 58=>92 | 33=>111 | n=>n,fun | n=>n⟩
theorem Tryz.anp:Go.Proofs.SlLaysZI.n6 Tryz.prog Tryz.W3 where
 mixed:=by kernel_rfl
 f6:=⟨"slices.Sorted[int]",by decide,Tryz.func50.trans (congrArg some (by kernel_rfl))⟩
 f8:=⟨"slices.Collect[int]",by decide,Tryz.func76.trans (congrArg some (by kernel_rfl))⟩
 f11:=⟨"slices.AppendSeq[[]int,int]",by decide,Tryz.func100.trans (congrArg some (by kernel_rfl))⟩
 t0:=Tryz.underlying0
 a0:=Tryz.isAgg0
 z0:=Tryz.sizeOf0
 v0:=Tryz.zeroValue0
 t24:=Tryz.underlying51
 a24:=Tryz.isAgg51
 z24:=Tryz.sizeOf51
 v24:=Tryz.zeroValue51
 t26:=Tryz.underlying3
 a26:=Tryz.isAgg3
 z26:=Tryz.sizeOf3
 v26:=Tryz.zeroValue3
 t28:=Tryz.underlying76
 a28:=Tryz.isAgg76
 z28:=Tryz.sizeOf76
 v28:=Tryz.zeroValue76
 i26:=by kernel_rfl
def Tryz.anm:Go.Shelf.Ren:=⟨fun | 5=>77 | 8=>102 | 7=>101 | 19=>121 | 20=>122 | 10=>112 | 11=>113 | 12=>114 | 13=>115 | 14=>116 | 15=>117 | 16=>118 | 17=>119 | 18=>120 | 30=>131 | 31=>132 | 32=>133 | 33=>134 | 34=>135 | 35=>136 | 40=>151 | n=>n,fun | 23=>51 | 25=>3 | 3=>3 | 32=>141 | 22=>51 | 0=>0 | 44=>164 | 46=>166 | 4=>4 | 36=>158 | 35=>157 | 41=>112 | 5=>5 | 9=>9 | 53=>177 | 57=>90 | 63=>190 | 64=>92 | n=>n,fun | n=>n⟩
theorem Tryz.W1:Go.Proofs.SlLaysM.n5 Tryz.prog Tryz.anm where
 mixed:=by kernel_rfl
 f5:=⟨"slices.Sort[[]int,int]",by decide,Tryz.func77.trans (congrArg some (by kernel_rfl))⟩
 f7:=⟨"slices.pdqsortOrdered[int]",by decide,Tryz.func101.trans (congrArg some (by kernel_rfl))⟩
 f8:=Tryz.func102.trans (congrArg some (by kernel_rfl))
 f10:=⟨"slices.insertionSortOrdered[int]",by decide,Tryz.func112.trans (congrArg some (by kernel_rfl))⟩
 f11:=⟨"slices.heapSortOrdered[int]",by decide,Tryz.func113.trans (congrArg some (by kernel_rfl))⟩
 f12:=⟨"slices.breakPatternsOrdered[int]",by decide,Tryz.func114.trans (congrArg some (by kernel_rfl))⟩
 f13:=⟨"slices.choosePivotOrdered[int]",by decide,Tryz.func115.trans (congrArg some (by kernel_rfl))⟩
 f14:=⟨"slices.reverseRangeOrdered[int]",by decide,Tryz.func116.trans (congrArg some (by kernel_rfl))⟩
 f15:=⟨"slices.partialInsertionSortOrdered[int]",by decide,Tryz.func117.trans (congrArg some (by kernel_rfl))⟩
 f16:=⟨"cmp.Less[int]",by decide,Tryz.func118.trans (congrArg some (by kernel_rfl))⟩
 f17:=⟨"slices.partitionEqualOrdered[int]",by decide,Tryz.func119.trans (congrArg some (by kernel_rfl))⟩
 f18:=⟨"slices.partitionOrdered[int]",by decide,Tryz.func120.trans (congrArg some (by kernel_rfl))⟩
 f19:=Tryz.func121.trans (congrArg some (by kernel_rfl))
 f20:=Tryz.func122.trans (congrArg some (by kernel_rfl))
 f30:=⟨"slices.siftDownOrdered[int]",by decide,Tryz.func131.trans (congrArg some (by kernel_rfl))⟩
 f31:=Tryz.func132.trans (congrArg some (by kernel_rfl))
 f32:=Tryz.func133.trans (congrArg some (by kernel_rfl))
 f33:=⟨"slices.medianAdjacentOrdered[int]",by decide,Tryz.func134.trans (congrArg some (by kernel_rfl))⟩
 f34:=⟨"slices.medianOrdered[int]",by decide,Tryz.func135.trans (congrArg some (by kernel_rfl))⟩
 f35:=⟨"cmp.isNaN[int]",by decide,Tryz.func136.trans (congrArg some (by kernel_rfl))⟩
 f40:=⟨"slices.order2Ordered[int]",by decide,Tryz.func151.trans (congrArg some (by kernel_rfl))⟩
 t0:=Tryz.underlying0
 a0:=Tryz.isAgg0
 z0:=Tryz.sizeOf0
 v0:=Tryz.zeroValue0
 t3:=Tryz.underlying3
 a3:=Tryz.isAgg3
 z3:=Tryz.sizeOf3
 v3:=Tryz.zeroValue3
 t4:=Tryz.underlying4
 a4:=Tryz.isAgg4
 z4:=Tryz.sizeOf4
 v4:=Tryz.zeroValue4
 t5:=Tryz.underlying5
 a5:=Tryz.isAgg5
 z5:=Tryz.sizeOf5
 v5:=Tryz.zeroValue5
 t9:=Tryz.underlying9
 a9:=Tryz.isAgg9
 z9:=Tryz.sizeOf9
 v9:=Tryz.zeroValue9
 t22:=Tryz.underlying51
 a22:=Tryz.isAgg51
 z22:=Tryz.sizeOf51
 v22:=Tryz.zeroValue51
 t23:=Tryz.underlying51
 a23:=Tryz.isAgg51
 z23:=Tryz.sizeOf51
 v23:=Tryz.zeroValue51
 t25:=Tryz.underlying3
 a25:=Tryz.isAgg3
 z25:=Tryz.sizeOf3
 v25:=Tryz.zeroValue3
 t32:=Tryz.underlying141
 a32:=Tryz.isAgg141
 z32:=Tryz.sizeOf141
 v32:=Tryz.zeroValue141
 t35:=Tryz.underlying157
 a35:=Tryz.isAgg157
 z35:=Tryz.sizeOf157
 v35:=Tryz.zeroValue157
 t36:=Tryz.underlying158
 a36:=Tryz.isAgg158
 z36:=Tryz.sizeOf158
 v36:=Tryz.zeroValue158
 t41:=Tryz.underlying112
 a41:=Tryz.isAgg112
 z41:=Tryz.sizeOf112
 v41:=Tryz.zeroValue112
 t44:=Tryz.underlying164
 a44:=Tryz.isAgg164
 z44:=Tryz.sizeOf164
 v44:=Tryz.zeroValue164
 t46:=Tryz.underlying166
 a46:=Tryz.isAgg166
 z46:=Tryz.sizeOf166
 v46:=Tryz.zeroValue166
 t53:=Tryz.underlying177
 a53:=Tryz.isAgg177
 z53:=Tryz.sizeOf177
 v53:=Tryz.zeroValue177
 t57:=Tryz.underlying90
 a57:=Tryz.isAgg90
 z57:=Tryz.sizeOf90
 v57:=Tryz.zeroValue90
 t63:=Tryz.underlying190
 a63:=Tryz.isAgg190
 z63:=Tryz.sizeOf190
 v63:=Tryz.zeroValue190
 t64:=Tryz.underlying92
 a64:=Tryz.isAgg92
 z64:=Tryz.sizeOf92
 v64:=Tryz.zeroValue92
theorem Q_ (s sub:ByteArray) (m:Int) (w:World) (aR:s.size<4294967281) (hm:w.cell? ⟨0,0,none⟩=some (.int .i64 m)):
 Calls Tryz.prog 159 #[.string s,.string sub] w fun e ao=>e=.returned (.bool (Lib.contains s.data.toList sub.data.toList))/\ao=w:=Any.strings_Contains Tryz.ajA s sub m w aR hm
end
section
open Go.RowKit Go.Maps Go.Sort Go.Shelf
theorem ans (m:Nat):AnyZI.SortsIn Tryz.prog Tryz.W3 Fence.wide m:=
 ⟨fun aM off cap fV W lq kC cr=>callsIn_wide.2 (AnyM.slices_Sort_int Tryz.W1 aM off cap fV W lq kC cr),
  fun p cap W=>callsIn_wide.2 (AnyM.slices_Sort_int_none Tryz.W1 p cap W)⟩
theorem W4:a7.OJ Tryz.prog 50 78 3:=by
 intro vb b bN oQ R w aej wc h5 yT aeG;have af5:SeqGives Fence.wide 2 Tryz.prog 78 #[.pointer (some ⟨vb,0,none⟩)] encZ (fun fV=>fV.Perm (intKeys oQ)) (Maps.size oQ) w:=
  AnyZI.keys_gives (ρ:=Tryz.T1) {Tryz.aiv with} Fence.wide _ trivial rfl (by omega) vb b bN oQ w aej wc h5
 have IZ:=AnyZI.sorted_in Tryz.anp Fence.wide 5 trivial trivial trivial trivial rfl (by omega) (ans _) (enters_of Tryz.func77 (by kernel_rfl) rfl) 78 #[.pointer (some ⟨vb,0,none⟩)] trivial (enters_of Tryz.func78 (by kernel_rfl) rfl) _ _ yT aeG _ af5
 change CallsIn _ _ Tryz.prog 50 _ _ _ at IZ;exact callsIn_wide.1 (IZ.mono fun e ao q=>by obtain ⟨v,fV,rfl,cU,KU,yW,ae⟩:=q;exact ⟨v,fV,rfl,cU,KU,yW,ae⟩)
end
theorem ag8:HS Tryz.prog 72:=
 ⟨fun vF o c xs sep w aa ad aJ bE dn=>Go.Proofs.Any.strings_Join Tryz.T8 Tryz.RT vF o c xs sep w aa ad aJ bE dn,fun a c sep w=>Go.Proofs.Any.strings_Join_none Tryz.T8 Tryz.RT a c sep w⟩
def ctx:Ctx:=⟨Tryz.prog,fun f=>bif Nat.beq f 159 then some I6 else bif Nat.beq f 50 then some (C3 78) else bif Nat.beq f 72 then some Lk else none,fun f=>bif Nat.beq f 153 then some FQ else none⟩
theorem follows:ctx.P.follows .mixedOrders=true:=by kernel_rfl
theorem Cw:eT ctx.P:=by
 intro f fn aA;have eh:(Tryz.prog.funcs.toList.all fun fn=>!(fn.name == "runtime.NumGoroutine"))=true:=by kernel_rfl
 have:=List.all_eq_true.1 eh fn (Array.mem_toList_iff.2 (Array.mem_of_getElem? aA));simpa using this
theorem alX:r5 ctx:=by
 refine ⟨fun f p args h v ab ag he=>?_,fun f p args h v ab ag he az E w xs ak s=>?_⟩
 . simp only [ctx,ix] at ag;by_cases aA:f=159
   . rw [if_pos aA] at ag;cases ag;subst aA;obtain ⟨s,sub,rfl,aR,rfl,rfl⟩:=acf he;refine ⟨⟨_,Tryz.func159,by kernel_rfl⟩,ajp fun E xs w ay ak=>?_⟩;obtain ⟨y,cY,rfl,ar,z,fA,rfl,av,rfl⟩:=ak;simp only [Rel] at ar av;subst ar av;obtain ⟨m,hm⟩:=ay.maxLen;refine (Q_ ⟨⟨s⟩⟩ ⟨⟨sub⟩⟩ m w (by show s.length<4294967281;omega) hm).mono fun e ao q=>?_;obtain ⟨rfl,rfl⟩:=q;exact ⟨_,rfl,by simp only [Rel],Below.refl _ _⟩
   . rw [if_neg aA] at ag;by_cases aA:f=50
     . rw [if_pos aA] at ag;cases ag;subst aA;exact ⟨⟨_,Tryz.func50,by kernel_rfl⟩,fun az E w xs ak s=>W5 (by decide) Tryz.underlying3 W4 he az E w xs ak s⟩
     . rw [if_neg aA] at ag;by_cases aA:f=72
       . rw [if_pos aA] at ag;cases ag;subst aA;exact ⟨⟨_,Tryz.func72,by kernel_rfl⟩,fun az E w xs ak s=>ag7 ag8 he az E w xs ak s⟩
       . rw [if_neg aA] at ag;cases ag
 . simp only [ctx,ix] at ag;by_cases aA:f=153
   . rw [if_pos aA] at ag;cases ag;subst aA;exact agW (P:=Tryz.prog) Tryz.func153 (by kernel_rfl) (by kernel_rfl) (by kernel_rfl) (by kernel_rfl) he az E w xs ak s
   . rw [if_neg aA] at ag;cases ag
end
section
open Go a7
abbrev af (d ba:Nat):bH:=⟨some d,.b1 (.t ba),none,[ba]⟩
abbrev bt (d ba:Nat):bH:=⟨some d,.d_ (.t ba),none,[ba]⟩
abbrev bS (d ba:Nat):bH:=⟨some d,.h8 (.t ba),none,[ba]⟩
abbrev c' (d ba:Nat):bH:=⟨some d,.eJ 1 (.t ba),none,[ba]⟩
abbrev dh (d ba:Nat):bH:=⟨some d,.eJ 0 (.t ba),none,[ba]⟩
abbrev dK (d:Nat):bH:=⟨some d,.b1 (.c (.int .i64 0)),none,[]⟩
abbrev dW (d ba:Nat):bH:=⟨some d,.bin (.int .add) (.t ba) (.c (.int .i64 1)),none,[ba]⟩
abbrev ea (d ba:Nat):bH:=⟨some d,.len .slice (.t ba),none,[ba]⟩
abbrev en (d ba bz:Nat):bH:=⟨some d,.b1 (.t ba),(some (bz,true)),[ba,bz]⟩
abbrev eC (d ba bz:Nat):bH:=⟨some d,.pick (.t ba) (.t bz) (.c (.bool false)),none,[ba,bz]⟩
abbrev fr (d:Nat):bH:=⟨some d,.b1 (.c (.bool false)),none,[]⟩
abbrev fs (d ba bz:Nat):bH:=⟨some d,.bin (.int .lss) (.t ba) (.t bz),none,[ba,bz]⟩
abbrev fB (d ba:Nat):bH:=⟨some d,.iV 4 (.t ba),none,[ba]⟩
abbrev gD (d:Nat):bH:=⟨some d,.b1 (.c .bF),none,[]⟩
abbrev gE (d ba bz:Nat):bH:=⟨some d,.d_ (.t ba),(some (bz,true)),[ba,bz]⟩
abbrev gX (d ba bz:Nat):bH:=⟨some d,.b1 (.t ba),(some (bz,false)),[ba,bz]⟩
abbrev hz (d ba bz:Nat):bH:=⟨some d,.pick (.t ba) (.c (.bool true)) (.t bz),none,[ba,bz]⟩
abbrev hQ (d ba:Nat):bH:=⟨some d,.eJ 2 (.t ba),none,[ba]⟩
abbrev h_ (d ba:Nat):bH:=⟨some d,.eJ 3 (.t ba),none,[ba]⟩
abbrev iJ (d ba bz:Nat):bH:=⟨some d,.ct 1 (.t ba) (.t bz),none,[ba,bz]⟩
abbrev jK (d ba:Nat):bH:=⟨some d,.box (.t ba),none,[ba]⟩
abbrev kd (d ba bz:Nat):bH:=⟨some d,.ct 4 (.t ba) (.t bz),none,[ba,bz]⟩
abbrev kP (d ba:Nat):bH:=⟨some d,.ext (.t ba) 1,none,[ba]⟩
abbrev lL (d ba:Nat):bH:=⟨some d,.ext (.t ba) 0,none,[ba]⟩
abbrev mm (d:Nat):bH:=⟨some d,.new [(.int .i64 0),(.int .i64 0),(.str []),.bF],none,[]⟩
abbrev mX (d ba:Nat):bH:=⟨some d,.un .not (.t ba),none,[ba]⟩
abbrev mY (d ba:Nat):bH:=⟨some d,.len .str (.t ba),none,[ba]⟩
abbrev mZ (d ba bz:Nat):bH:=⟨some d,.ct 6 (.t ba) (.t bz),none,[ba,bz]⟩
abbrev nU (d ba:Nat):bH:=⟨some d,.eJ 4 (.t ba),none,[ba]⟩
abbrev pN (d ba bz:Nat):bH:=⟨some d,.d_ (.t ba),(some (bz,false)),[ba,bz]⟩
abbrev qK (d ba bz:Nat):bH:=⟨some d,.ct 5 (.t ba) (.t bz),none,[ba,bz]⟩
abbrev qL (d ba:Nat):bH:=⟨some d,.bin (.int .eql) (.t ba) (.c (.int .i64 1)),none,[ba]⟩
abbrev rY (d ba bz:Nat):bH:=⟨some d,.h8 (.t ba),(some (bz,true)),[ba,bz]⟩
abbrev rZ (d:Nat):bH:=⟨some d,.b1 (.c (.bool true)),none,[]⟩
abbrev r0 (d ba bz:Nat):bH:=⟨some d,.eJ 1 (.t ba),(some (bz,true)),[ba,bz]⟩
abbrev tt (d ba:Nat):bH:=⟨some d,.iw 1 4 [(.int .i64 0),(.int .i64 0),(.str []),.bF] [(0,4,(.t ba))],none,[ba]⟩
abbrev tu (d ba bz:Nat):bH:=⟨some d,.eJ 3 (.t ba),(some (bz,true)),[ba,bz]⟩
abbrev tv (d ba bz:Nat):bH:=⟨some d,.eJ 0 (.t ba),(some (bz,true)),[ba,bz]⟩
abbrev vf (d ba bz:Nat):bH:=⟨some d,.app 4 (.t ba) (.t bz),none,[ba,bz]⟩
abbrev vg (d ba bz:Nat):bH:=⟨some d,.bin (.int .neq) (.t ba) (.t bz),none,[ba,bz]⟩
abbrev vh (d ba bz:Nat):bH:=⟨some d,.bin (.int .add) (.t ba) (.t bz),none,[ba,bz]⟩
abbrev vi (d ba bz:Nat):bH:=⟨some d,.call 82 [(.t ba),(.t bz)],none,[ba,bz]⟩
abbrev vj (d ba:Nat):bH:=⟨some d,.eJ 5 (.t ba),none,[ba]⟩
abbrev xT (d ba bz ek:Nat):bH:=⟨some d,.bin (.int .eql) (.t ba) (.t bz),(some (ek,true)),[ba,bz,ek]⟩
abbrev xU (d ba:Nat):bH:=⟨some d,.call 53 [(.t ba)],none,[ba]⟩
abbrev xV (d ba bz:Nat):bH:=⟨some d,.app 5 (.t ba) (.t bz),none,[ba,bz]⟩
abbrev xW (d ba bz:Nat):bH:=⟨some d,.eJ 2 (.t ba),(some (bz,true)),[ba,bz]⟩
abbrev xX (d ba bz:Nat):bH:=⟨some d,.len .slice (.t ba),(some (bz,true)),[ba,bz]⟩
abbrev Ap (d ba:Nat):bH:=⟨some d,.build [(.int .i64 0),(.int .i64 0),(.str []),.bF] [(0,1,(.c (.int .i64 1))),(1,1,(.t ba))],none,[ba]⟩
abbrev Aq (d ba bz:Nat):bH:=⟨some d,.iV 4 (.t ba),(some (bz,false)),[ba,bz]⟩
abbrev Ar (d:Nat):bH:=⟨some d,.b1 (.c (.int .i64 2)),none,[]⟩
abbrev As (d ba:Nat):bH:=⟨some d,.bin (.int .gtr) (.t ba) (.c (.int .i64 4096)),none,[ba]⟩
abbrev Au (d ba bz:Nat):bH:=⟨some d,.app 1 (.t ba) (.t bz),none,[ba,bz]⟩
abbrev Av (d ba bz:Nat):bH:=⟨some d,.len .slice (.t ba),(some (bz,false)),[ba,bz]⟩
abbrev Aw (d ba:Nat):bH:=⟨some d,.bin (.int .eql) (.t ba) (.c (.int .i64 0)),none,[ba]⟩
abbrev Ax (d ba bz:Nat):bH:=⟨some d,.bin (.int .geq) (.t ba) (.t bz),none,[ba,bz]⟩
abbrev Ay (d:Nat):bH:=⟨some d,.new [(.int .i64 0),(.int .i64 0),(.int .i64 0),(.str [])],none,[]⟩
abbrev Dv (d ba bz ek:Nat):bH:=⟨some d,.call 17 [(.t ba),(.t bz)],(some (ek,true)),[ba,bz,ek]⟩
abbrev Dw (d:Nat):bH:=⟨some d,.b1 (.c (.int .i64 1)),none,[]⟩
abbrev Dx (d ba bz:Nat):bH:=⟨some d,.iV 4 (.t ba),(some (bz,true)),[ba,bz]⟩
abbrev Dy (d ba bz:Nat):bH:=⟨some d,.h8 (.t ba),(some (bz,false)),[ba,bz]⟩
abbrev Dz (d ba bz:Nat):bH:=⟨some d,.eJ 1 (.t ba),(some (bz,false)),[ba,bz]⟩
abbrev DA (d ba bz:Nat):bH:=⟨some d,.bin (.int .gtr) (.t ba) (.c (.int .i64 200)),(some (bz,false)),[ba,bz]⟩
abbrev DB (d ba:Nat):bH:=⟨some d,.iw 1 5 [(.int .i64 0),(.int .i64 0),(.int .i64 0),(.str []),.bF] [(0,5,(.t ba))],none,[ba]⟩
abbrev DC (d ba bz:Nat):bH:=⟨some d,.ei [(.t ba),(.t bz)],none,[ba,bz]⟩
abbrev DD (d ba bz:Nat):bH:=⟨some d,.bin (.int .eql) (.t ba) (.t bz),none,[ba,bz]⟩
abbrev DE (d ba:Nat):bH:=⟨some d,.bin (.int .gtr) (.t ba) (.c (.int .i64 0)),none,[ba]⟩
abbrev DF (d ba:Nat):bH:=⟨some d,.bin (.int .geq) (.t ba) (.c (.int .i64 0)),none,[ba]⟩
abbrev DG (d ba bz:Nat):bH:=⟨some d,.mH (.t ba) (.t bz),none,[ba,bz]⟩
abbrev DH (d ba:Nat):bH:=⟨some d,.mH (.t ba) (.c (.int .i64 0)),none,[ba]⟩
abbrev DI (d ba bz:Nat):bH:=⟨some d,.bin (.int .eql) (.t ba) (.c (.int .u8 95)),(some (bz,false)),[ba,bz]⟩
abbrev HE (d ba bz:Nat):bH:=⟨some d,.bin (.int .eql) (.t ba) (.c (.int .i64 0)),(some (bz,true)),[ba,bz]⟩
abbrev HF (d ba:Nat):bH:=⟨some d,.bin (.int .neq) (.t ba) (.c (.int .i64 0)),none,[ba]⟩
abbrev HG (d ba bz:Nat):bH:=⟨some d,.ry (.int .i64 0) false (.t ba) (.t bz),none,[ba,bz]⟩
abbrev HH (d ba bz:Nat):bH:=⟨some d,.build [(.int .i64 0),(.int .i64 0),(.int .i64 0),(.str []),.bF] [(0,1,(.t ba)),(1,4,(.t bz))],none,[ba,bz]⟩
abbrev HI (d ba bz ek:Nat):bH:=⟨some d,.bin (.str .eql) (.t ba) (.t bz),(some (ek,true)),[ba,bz,ek]⟩
abbrev HJ (d ba:Nat):bH:=⟨some d,.bin (.int .sub) (.t ba) (.c (.int .i64 1)),none,[ba]⟩
abbrev HK (d ba:Nat):bH:=⟨some d,.bin (.int .lss) (.t ba) (.c (.int .i64 0)),none,[ba]⟩
abbrev HL (d ba bz ek:Nat):bH:=⟨some d,.bin (.int .lss) (.t ba) (.t bz),(some (ek,true)),[ba,bz,ek]⟩
abbrev HM (d ba bz ek:Nat):bH:=⟨some d,.pick (.t ba) (.t bz) (.c (.bool false)),(some (ek,false)),[ba,bz,ek]⟩
abbrev HN (d ba bz:Nat):bH:=⟨some d,.s5 1 [(.int .i64 0)] (.t ba) (.t bz),none,[ba,bz]⟩
abbrev HO (d:Nat):bH:=⟨some d,.new [(.int .i64 0),(.int .i64 0),(.str []),.bF,.bF,(.int .i64 0)],none,[]⟩
abbrev HP (d ba:Nat):bH:=⟨some d,.call 106 [(.t ba),(.c (.int .u8 97)),(.c (.int .u8 122))],none,[ba]⟩
abbrev HQ (d ba bz:Nat):bH:=⟨some d,.rO (.t ba) (some (.t bz)) none none,none,[ba,bz]⟩
abbrev HR (d:Nat):bH:=⟨some d,.build [(.int .i64 0),(.int .i64 0),(.int .i64 0),(.str [])] [],none,[]⟩
abbrev Of (d ba:Nat):bH:=⟨some d,.build [(.int .i64 0),(.int .i64 0),(.str []),.bF] [(0,1,(.c (.int .i64 2))),(2,1,(.t ba))],none,[ba]⟩
abbrev Og (d ba:Nat):bH:=⟨some d,.iw 1 6 [(.int .i64 0),(.int .i64 0),(.str []),.bF,.bF,(.int .i64 0)] [(0,6,(.t ba))],none,[ba]⟩
abbrev Oh (d ba:Nat):bH:=⟨some d,.build [(.int .i64 0),(.int .i64 0),(.int .i64 0),(.str [])] [(0,1,(.c (.int .i64 7))),(3,1,(.t ba))],none,[ba]⟩
structure dD (f n:Nat) (fn:Func) (c:aW) (e5:List vr):Prop where
 aA:Tryz.prog.funcs[f]? =some fn
 ab6:(fn.body,fn.ntmps,Nat.ble fn.ntmps top,Nat.beq f dC,gO Tryz.prog fn.ntmps (fn.body.getD .skip),nM Tryz.prog fn.ntmps fn.results.toList,c.plain)=(some (fn.body.getD .skip),n,true,false,c,e5,true)
theorem dD.z {f n:Nat} {fn:Func} {c:aW} {e5:List vr} (Z:dD f n fn c e5) {args:List V} {h:ai} {K:V->ai->Prop} (ay:Nat.ble args.length n=true) (H:gC Tryz.prog c (bd.bC args) h fun e r ab=>e.ends/\∃ah,lo r ab e5=some ah/\K (oneOf ah) ab):db Tryz.prog f args h K:=by have q:=Z.ab6;simp only [Prod.mk.injEq] at q;obtain ⟨aa,ad,aJ,bE,dn,dH,jW⟩:=q;exact acr follows Cw Z.aA aa aJ bE (by rw [ad];exact ay) dn dH jW H
def c3:aW:=
 .seq (.aq [fr 4])
 (.seq (.seq (.aq [af 12 0,⟨some 13,.call 10 [(.t 12),(.c (.int .i64 300))],none,[12]⟩,af 14 13,gX 15 1 14,⟨some 16,.call 10 [(.t 15),(.c (.int .i64 300))],(some (14,false)),[15,14]⟩,hz 17 14 16])
 (.cond (.t 17)
 (.seq (.aq [⟨some 18,.call 11 [],none,[]⟩,af 4 18])
 (.ret))
 (.skip)))
 (.seq (.aq [af 19 0,⟨some 20,.call 12 [(.t 19)],none,[19]⟩,af 21 1,⟨some 22,.call 12 [(.t 21)],none,[21]⟩,af 5 20,af 6 22])
 (.seq (.aq [af 24 5,af 25 6,⟨some 26,.call 13 [(.t 24),(.t 25)],none,[24,25]⟩,af 23 26,lL 27 23,kP 28 23,af 7 27,af 8 28])
 (.seq (.aq [af 30 0,af 31 1,⟨some 32,.call 14 [(.t 30),(.t 31)],none,[30,31]⟩,af 29 32,lL 33 29,kP 34 29,af 9 33,af 10 34])
 (.seq (.aq [af 35 7,af 36 9,⟨some 37,.call 15 [(.t 35),(.t 36)],none,[35,36]⟩,af 38 37,en 39 8 38,en 40 10 38,xT 41 39 40 38,eC 42 38 41,af 11 42])
 (.seq (.aq [af 43 7,⟨some 44,.call 16 [(.t 43)],none,[43]⟩])
 (.seq (.aq [af 45 11,af 46 45,en 47 5 46,en 48 0 46,Dv 49 47 48 46,eC 50 46 49,af 51 50,en 52 6 51,en 53 1 51,Dv 54 52 53 51,eC 55 51 54,af 56 55,⟨some 57,.call 11 [],(some (56,true)),[56]⟩,eC 58 56 57,af 4 58])
 (.ret))))))))
theorem aa':dD 3 59 Tryz.f3 c3 [.t 4]:=⟨Tryz.func3,by kernel_rfl⟩
def abe:aW:=
 .seq (.seq (.aq [af 19 7,af 20 0,fs 21 19 20])
 (.cond (.t 21)
 (.skip)
 (.exit 0)))
 (.seq (.block 1 (.seq (.aq [af 24 7,dW 25 24,Ap 26 25,mm 8,⟨none,.st 4 (.t 8) (.t 26),none,[8,26]⟩])
 (.seq (.aq [af 27 5,af 28 7,Ap 29 28,tt 30 29,vf 31 27 30,af 5 31])
 (.aq [af 32 6,fB 33 8,fB 34 8,⟨some 35,.iw 2 4 [(.int .i64 0),(.int .i64 0),(.str []),.bF] [(0,4,(.t 33)),(4,4,(.t 34))],none,[33,34]⟩,⟨some 36,.build [(.int .i64 0),(.int .i64 0),(.str []),.bF] [(0,1,(.c (.int .i64 2))),(2,1,(.c (.str [42]))),(3,1,(.t 35))],none,[35]⟩,tt 37 36,vf 38 32 37,af 6 38]))))
 (.aq [af 22 7,dW 23 22,af 7 23]))
def abf:aW:=
 .seq (.seq (.aq [af 41 10,af 42 1,fs 43 41 42])
 (.cond (.t 43)
 (.skip)
 (.exit 2)))
 (.seq (.block 3 (.aq [fB 46 9,tt 47 46,⟨some 48,.build [(.int .i64 0),(.int .i64 0),(.str []),.bF] [(0,1,(.c (.int .i64 2))),(2,1,(.c (.str [114,101,102]))),(3,1,(.t 47))],none,[47]⟩,⟨none,.st 4 (.t 9) (.t 48),none,[9,48]⟩]))
 (.aq [af 44 10,dW 45 44,af 10 45]))
def eV:aW:=
 .seq (.aq [fr 4])
 (.seq (.aq [af 15 0,⟨some 16,.call 18 [(.t 15),(.c (.int .i64 15))],none,[15]⟩,af 17 1,⟨some 18,.call 18 [(.t 17),(.c (.int .i64 206))],none,[17]⟩,af 0 16,af 1 18])
 (.seq (.aq [gD 5,gD 6])
 (.seq (.seq (.aq [dK 7])
 (.block 0 (.loop abe)))
 (.seq (.aq [af 39 0,Ap 40 39,mm 9,⟨none,.st 4 (.t 9) (.t 40),none,[9,40]⟩])
 (.seq (.seq (.aq [Dw 10])
 (.block 2 (.loop abf)))
 (.seq (.aq [af 50 5,af 51 6,⟨some 52,.call 13 [(.t 50),(.t 51)],none,[50,51]⟩,af 49 52,lL 53 49,kP 54 49,af 11 53,af 12 54])
 (.seq (.aq [af 56 5,af 57 6,⟨some 58,.call 14 [(.t 56),(.t 57)],none,[56,57]⟩,af 55 58,lL 59 55,kP 60 55,af 13 59,af 14 60])
 (.seq (.draw [af 61 11,af 62 13,⟨some 63,.call 15 [(.t 61),(.t 62)],none,[61,62]⟩,af 64 63,en 65 12 64,en 66 14 64,xT 67 65 66 64,eC 68 64 67,af 69 68,Dx 70 9 69,Dx 72 9 69,⟨some 71,.call 19 [(.t 70)],(some (69,true)),[70,69]⟩,⟨some 73,.call 20 [(.t 72)],(some (69,true)),[72,69]⟩,xT 74 71 73 69,eC 75 69 74,af 76 75,Dx 77 9 76,en 80 1 76,⟨some 81,.bin (.int .leq) (.t 80) (.c (.int .i64 200)),(some (76,true)),[80,76]⟩,⟨some 78,.call 19 [(.t 77)],(some (76,true)),[77,76]⟩,HE 79 78 76,⟨some 82,.bin (.yq false) (.t 79) (.t 81),(some (76,true)),[79,81,76]⟩,eC 83 76 82,af 84 83,⟨some 85,.call 11 [],(some (84,true)),[84]⟩,eC 86 84 85,af 4 86] [(9,[11]),(10,[11,12]),(16,[19])])
 (.ret)))))))))
def c5:aW:=
 .seq (.aq [jK 3 1,fr 4])
 (.seq (.seq (.aq [af 12 0,⟨some 13,.call 21 [(.t 12),(.c (.int .i64 300))],none,[12]⟩,af 14 13,Aq 15 3 14,⟨some 16,.iw 1 4 [(.int .i64 0),(.int .i64 0),(.str []),.bF] [(0,4,(.t 15))],(some (14,false)),[15,14]⟩,⟨some 17,.call 10 [(.t 16),(.c (.int .i64 300))],(some (14,false)),[16,14]⟩,hz 18 14 17])
 (.cond (.t 18)
 (.seq (.aq [⟨some 19,.call 11 [],none,[]⟩,af 4 19])
 (.ret))
 (.skip)))
 (.seq (.aq [fB 20 3,tt 21 20,⟨some 22,.call 12 [(.t 21)],none,[21]⟩,af 23 0,⟨some 24,.call 22 [(.t 23)],none,[23]⟩,af 5 22,af 6 24])
 (.seq (.aq [af 26 6,af 27 5,⟨some 28,.ct 4 (.t 27) (.c (.int .i64 0)),none,[27]⟩,fB 29 28,⟨some 30,.call 23 [(.t 26),(.t 29)],none,[26,29]⟩,af 25 30,lL 31 25,kP 32 25,mm 7,⟨none,.st 4 (.t 7) (.t 31),none,[7,31]⟩,af 8 32])
 (.seq (.aq [af 34 0,fB 35 3,⟨some 36,.call 24 [(.t 34),(.t 35)],none,[34,35]⟩,af 33 36,lL 37 33,kP 38 33,mm 9,⟨none,.st 4 (.t 9) (.t 37),none,[9,37]⟩,af 10 38])
 (.seq (.aq [fB 39 7,fB 40 9,⟨some 41,.call 25 [(.t 39),(.t 40)],none,[39,40]⟩,af 42 41,en 43 8 42,en 44 10 42,xT 45 43 44 42,eC 46 42 45,af 11 46])
 (.seq (.aq [fB 47 7,tt 48 47,⟨some 49,.call 26 [(.t 48)],none,[48]⟩])
 (.seq (.aq [af 50 11,af 51 50,en 52 5 51,Dx 53 3 51,⟨some 54,.iw 1 4 [(.int .i64 0),(.int .i64 0),(.str []),.bF] [(0,4,(.t 53))],(some (51,true)),[53,51]⟩,Dv 55 52 54 51,eC 56 51 55,af 57 56,en 58 6 57,en 59 0 57,⟨some 60,.call 15 [(.t 58),(.t 59)],(some (57,true)),[58,59,57]⟩,eC 61 57 60,af 62 61,⟨some 63,.call 11 [],(some (62,true)),[62]⟩,eC 64 62 63,af 4 64])
 (.ret))))))))
def PC:aW:=
 .seq (.aq [fr 4])
 (.seq (.aq [af 5 0,af 6 1,⟨some 7,.call 46 [(.t 5),(.t 6)],none,[5,6]⟩,af 8 1,⟨some 9,.bin (.int .gtr) (.t 7) (.t 8),none,[7,8]⟩,af 4 9])
 (.ret))
theorem aaA:dD 10 10 Tryz.f10 PC [.t 4]:=⟨Tryz.func10,by kernel_rfl⟩
def PW:aW:=
 .seq (.seq (.aq [af 6 4,af 7 0,ea 8 7,fs 9 6 8])
 (.cond (.t 9)
 (.skip)
 (.exit 0)))
 (.seq (.block 1 (.seq (.aq [af 12 0,af 13 4,kd 14 12 13,fB 15 14,mm 5,⟨none,.st 4 (.t 5) (.t 15),none,[5,15]⟩])
 (.seq (.aq [af 16 0,af 17 4,kd 18 16 17,h_ 19 18,bt 20 19,⟨some 21,.call 12 [(.t 20)],none,[20]⟩,h_ 22 5,⟨none,.st 1 (.t 22) (.t 21),none,[22,21]⟩])
 (.aq [af 23 3,fB 24 5,tt 25 24,vf 26 23 25,af 3 26]))))
 (.aq [af 10 4,dW 11 10,af 4 11]))
def PM:aW:=
 .seq (.aq [gD 2])
 (.seq (.aq [gD 3])
 (.seq (.seq (.aq [dK 4])
 (.block 0 (.loop PW)))
 (.seq (.aq [af 27 3,af 2 27])
 (.ret))))
theorem aaG:dD 12 28 Tryz.f12 PM [.t 2]:=⟨Tryz.func12,by kernel_rfl⟩
def IB:aW:=
 .seq (.aq [fs 29 28 27])
 (.seq (.cond (.t 29)
 (.skip)
 (.exit 0))
 (.seq (.block 1 (.seq (.aq [kd 30 26 28,fB 31 30,mm 7,⟨none,.st 4 (.t 7) (.t 31),none,[7,31]⟩])
 (.seq (.aq [fB 32 7,⟨some 33,.call 19 [(.t 32)],none,[32]⟩,HF 34 33])
 (.cond (.t 34)
 (.seq (.aq [gD 4,Ar 5])
 (.ret))
 (.skip)))))
 (.aq [dW 35 28,af 28 35])))
def IC:aW:=
 .seq (.aq [fs 40 39 38])
 (.seq (.cond (.t 40)
 (.skip)
 (.exit 2))
 (.seq (.block 3 (.seq (.aq [af 41 39,af 9 41])
 (.seq (.draw [af 42 8,af 43 0,af 44 9,kd 45 43 44,fB 46 45,af 48 8,af 49 1,af 50 9,kd 51 49 50,fB 52 51,⟨some 47,.call 49 [(.t 42),(.t 46)],none,[42,46]⟩,⟨some 53,.call 49 [(.t 48),(.t 52)],none,[48,52]⟩,⟨some 54,.call 48 [(.t 47),(.t 53)],none,[47,53]⟩,mX 55 54] [(4,[10]),(9,[10,11])])
 (.cond (.t 55)
 (.seq (.aq [gD 4,⟨some 5,.b1 (.c (.int .i64 290)),none,[]⟩])
 (.ret))
 (.skip)))))
 (.aq [dW 56 39,af 39 56])))
def ID:aW:=
 .seq (.aq [fs 68 67 66])
 (.seq (.cond (.t 68)
 (.skip)
 (.exit 4))
 (.seq (.block 5 (.seq (.aq [iJ 69 65 67,bt 70 69,af 13 70])
 (.seq (.aq [af 71 10,af 72 8,af 73 13,⟨some 74,.look .int .ej false (.t 72) (.t 73),none,[72,73]⟩,⟨some 75,.call 52 [(.t 71),(.t 74)],none,[71,74]⟩,mX 76 75])
 (.cond (.t 76)
 (.seq (.aq [gD 4,⟨some 5,.b1 (.c (.int .i64 291)),none,[]⟩])
 (.ret))
 (.skip)))))
 (.aq [dW 77 67,af 67 77])))
def IE:aW:=
 .seq (.aq [fs 81 80 79])
 (.seq (.cond (.t 81)
 (.skip)
 (.exit 6))
 (.seq (.block 7 (.seq (.aq [iJ 82 78 80,bt 83 82,af 16 83])
 (.seq (.aq [af 84 8,af 85 16,⟨some 86,.look .int .ej false (.t 84) (.t 85),none,[84,85]⟩,xU 87 86,af 17 87])
 (.seq (.block 8 (.seq (.aq [af 89 17,bS 90 89,c' 91 90,bt 92 91,mX 93 92,af 94 93,en 95 17 94,rY 96 95 94,⟨some 97,.eJ 4 (.t 96),(some (94,true)),[96,94]⟩,gE 98 97 94,en 99 16 94,xT 100 98 99 94,eC 101 94 100,af 88 101])
 (.cond (.t 88)
 (.exit 7)
 (.seq (.aq [af 103 10,bS 104 103,dh 105 104,bt 106 105,af 107 17,HG 108 106 107,As 109 108,af 110 109,gX 111 10 110,Dy 112 111 110,Dz 113 112 110,pN 114 113 110,gX 115 17 110,⟨some 116,.ry (.int .i64 0) false (.t 114) (.t 115),(some (110,false)),[114,115,110]⟩,DA 117 116 110,hz 118 110 117,af 102 118])
 (.cond (.t 102)
 (.seq (.aq [gD 4,⟨some 5,.b1 (.c (.int .i64 3)),none,[]⟩])
 (.ret))
 (.skip))))))
 (.aq [af 119 14,af 120 16,af 121 17,⟨some 122,.call 54 [(.t 121)],none,[121]⟩,HH 123 120 122,DB 124 123,xV 125 119 124,af 14 125])))))
 (.aq [dW 126 80,af 80 126])))
def PX:aW:=
 .seq (.aq [gD 4,dK 5])
 (.seq (.seq (.aq [af 18 0,ea 19 18,af 20 1,ea 21 20,vg 22 19 21])
 (.cond (.t 22)
 (.seq (.aq [gD 4,Ar 5])
 (.ret))
 (.skip)))
 (.seq (.seq (.aq [af 23 0,af 24 1,⟨some 25,.iw 2 1 [.bF] [(0,1,(.t 23)),(1,1,(.t 24))],none,[23,24]⟩,⟨some 26,.call 47 [(.t 25)],none,[25]⟩,ea 27 26,dK 28])
 (.block 0 (.loop IB)))
 (.seq (.aq [⟨some 36,.nG none,none,[]⟩,af 8 36])
 (.seq (.seq (.aq [af 37 0,ea 38 37,dK 39])
 (.block 2 (.loop IC)))
 (.seq (.aq [⟨some 57,.nG none,none,[]⟩,⟨some 58,.nG none,none,[]⟩,⟨some 59,.nG none,none,[]⟩,⟨some 60,.build [.j6,.j6,.j6] [(0,1,(.t 57)),(1,1,(.t 58)),(2,1,(.t 59))],none,[57,58,59]⟩,jK 61 60,af 10 61])
 (.seq (.aq [af 62 8,⟨some 63,.call 51 [(.t 62)],none,[62]⟩,⟨some 64,.call 50 [(.t 63)],none,[63]⟩,af 11 64])
 (.seq (.seq (.aq [af 65 11,ea 66 65,dK 67])
 (.block 4 (.loop ID)))
 (.seq (.aq [gD 14])
 (.seq (.seq (.aq [af 78 11,ea 79 78,dK 80])
 (.block 6 (.loop IE)))
 (.seq (.aq [af 127 14,af 4 127,dK 5])
 (.ret)))))))))))
theorem aaJ:dD 13 128 Tryz.f13 PX [.t 4,.t 5]:=⟨Tryz.func13,by kernel_rfl⟩
def P8:aW:=
 .seq (.seq (.aq [af 12 6,af 13 0,ea 14 13,fs 15 12 14])
 (.cond (.t 15)
 (.skip)
 (.exit 0)))
 (.seq (.block 1 (.seq (.aq [af 18 0,af 19 6,kd 20 18 19,fB 21 20,⟨some 22,.call 20 [(.t 21)],none,[21]⟩,HF 23 22,af 24 23,gX 25 1 24,gX 26 6 24,⟨some 27,.ct 4 (.t 25) (.t 26),(some (24,false)),[25,26,24]⟩,Aq 28 27 24,⟨some 29,.call 20 [(.t 28)],(some (24,false)),[28,24]⟩,⟨some 30,.bin (.int .neq) (.t 29) (.c (.int .i64 0)),(some (24,false)),[29,24]⟩,hz 31 24 30])
 (.cond (.t 31)
 (.seq (.aq [gD 4,Ar 5])
 (.ret))
 (.skip))))
 (.aq [af 16 6,dW 17 16,af 6 17]))
def PZ:aW:=
 .seq (.aq [gD 4,dK 5])
 (.seq (.seq (.aq [af 7 0,ea 8 7,af 9 1,ea 10 9,vg 11 8 10])
 (.cond (.t 11)
 (.seq (.aq [gD 4,Ar 5])
 (.ret))
 (.skip)))
 (.seq (.seq (.aq [dK 6])
 (.block 0 (.loop P8)))
 (.seq (.aq [af 32 0,af 33 1,⟨some 34,.call 55 [(.t 32),(.t 33)],none,[32,33]⟩,lL 35 34,kP 36 34,af 4 35,af 5 36])
 (.ret))))
theorem aaS:dD 14 37 Tryz.f14 PZ [.t 4,.t 5]:=⟨Tryz.func14,by kernel_rfl⟩
def Qd:aW:=
 .seq (.seq (.aq [af 11 5,af 12 0,ea 13 12,fs 14 11 13])
 (.cond (.t 14)
 (.skip)
 (.exit 0)))
 (.seq (.block 1 (.seq (.draw [af 17 0,af 18 5,qK 19 17 18,dh 20 19,bt 21 20,af 22 1,af 23 5,qK 24 22 23,dh 25 24,bt 26 25,vg 27 21 26,af 28 27,gX 29 0 28,gX 30 5 28,⟨some 31,.ct 5 (.t 29) (.t 30),(some (28,false)),[29,30,28]⟩,Dz 32 31 28,Aq 33 32 28,gX 34 1 28,gX 35 5 28,⟨some 36,.ct 5 (.t 34) (.t 35),(some (28,false)),[34,35,28]⟩,Dz 37 36 28,Aq 38 37 28,⟨some 39,.call 25 [(.t 33),(.t 38)],(some (28,false)),[33,38,28]⟩,⟨some 40,.un .not (.t 39),(some (28,false)),[39,28]⟩,hz 41 28 40] [(4,[22]),(9,[22]),(16,[22]),(21,[22])])
 (.cond (.t 41)
 (.seq (.aq [fr 4])
 (.ret))
 (.skip))))
 (.aq [af 15 5,dW 16 15,af 5 16]))
def P9:aW:=
 .seq (.aq [fr 4])
 (.seq (.seq (.aq [af 6 0,ea 7 6,af 8 1,ea 9 8,vg 10 7 9])
 (.cond (.t 10)
 (.seq (.aq [fr 4])
 (.ret))
 (.skip)))
 (.seq (.seq (.aq [dK 5])
 (.block 0 (.loop Qd)))
 (.seq (.aq [rZ 4])
 (.ret))))
theorem aaX:dD 15 42 Tryz.f15 P9 [.t 4]:=⟨Tryz.func15,by kernel_rfl⟩
def Qf:aW:=
 .seq (.seq (.aq [af 3 2,af 4 0,ea 5 4,fs 6 3 5])
 (.cond (.t 6)
 (.skip)
 (.exit 0)))
 (.seq (.block 1 (.seq (.aq [af 9 0,af 10 2,qK 11 9 10,c' 12 11,h_ 13 12,bt 14 13,⟨some 15,.call 26 [(.t 14)],none,[14]⟩])
 (.aq [af 16 0,af 17 2,⟨some 18,.build [(.int .i64 0),(.int .i64 0),(.int .i64 0),(.str []),.bF] [(0,1,(.c (.int .i64 (-77))))],none,[]⟩,qK 19 16 17,⟨none,.st 5 (.t 19) (.t 18),none,[19,18]⟩])))
 (.aq [af 7 2,dW 8 7,af 2 8]))
def Qe:aW:=
 .seq (.aq [dK 2])
 (.block 0 (.loop Qf))
theorem aaY:dD 16 20 Tryz.f16 Qe []:=⟨Tryz.func16,by kernel_rfl⟩
def Qg:aW:=
 .seq (.seq (.aq [af 11 5,af 12 0,ea 13 12,fs 14 11 13])
 (.cond (.t 14)
 (.skip)
 (.exit 0)))
 (.seq (.block 1 (.seq (.draw [af 17 0,af 18 5,kd 19 17 18,fB 20 19,af 21 1,af 22 5,kd 23 21 22,fB 24 23,⟨some 25,.call 25 [(.t 20),(.t 24)],none,[20,24]⟩,mX 26 25] [(3,[8]),(7,[8])])
 (.cond (.t 26)
 (.seq (.aq [fr 4])
 (.ret))
 (.skip))))
 (.aq [af 15 5,dW 16 15,af 5 16]))
def tI:aW:=
 .seq (.aq [fr 4])
 (.seq (.seq (.aq [af 6 0,ea 7 6,af 8 1,ea 9 8,vg 10 7 9])
 (.cond (.t 10)
 (.seq (.aq [fr 4])
 (.ret))
 (.skip)))
 (.seq (.seq (.aq [dK 5])
 (.block 0 (.loop Qg)))
 (.seq (.aq [rZ 4])
 (.ret))))
theorem aaZ:dD 17 27 Tryz.f17 tI [.t 4]:=⟨Tryz.func17,by kernel_rfl⟩
def II:aW:=
 .seq (.aq [af 5 9])
 (.aq [mm 6,⟨none,.st 4 (.t 6) (.t 10),none,[6,10]⟩])
def IJ:aW:=
 .block 1 (.seq (.seq (.aq [fB 11 6,⟨some 12,.call 57 [(.t 11)],none,[11]⟩,mX 13 12])
 (.cond (.t 13)
 (.seq (.aq [⟨none,.st 1 (.t 2) (.c (.int .i64 2)),none,[2]⟩])
 (.ret))
 (.skip)))
 (.seq (.aq [bt 14 3,dW 15 14,⟨none,.st 1 (.t 3) (.t 15),none,[3,15]⟩])
 (.aq [bt 16 4,af 17 5,DC 18 16 17,⟨none,.st 1 (.t 4) (.t 18),none,[4,18]⟩])))
def IH:aW:=
 .seq (.aq [jK 1 0,⟨some 2,.new [(.int .i64 0)],none,[]⟩])
 (.seq (.aq [⟨some 3,.new [(.int .i64 0)],none,[]⟩,⟨some 4,.new [(.int .i64 0)],none,[]⟩,⟨none,.st 1 (.t 3) (.c (.int .i64 0)),none,[3]⟩,⟨none,.st 1 (.t 4) (.c (.int .i64 0)),none,[4]⟩])
 (.seq (.seq (.aq [fB 7 1,⟨some 8,.call 56 [(.t 7)],none,[7]⟩])
 (.block 0 (aW.range (.t 8) [9,10] 25 II IJ)))
 (.seq (.seq (.aq [bt 19 3,As 20 19,af 21 20,pN 22 4 21,DA 23 22 21,hz 24 21 23])
 (.cond (.t 24)
 (.seq (.aq [⟨none,.st 1 (.t 2) (.c (.int .i64 3)),none,[2]⟩])
 (.ret))
 (.skip)))
 (.seq (.aq [⟨none,.st 1 (.t 2) (.c (.int .i64 0)),none,[2]⟩])
 (.ret)))))
theorem aa1:gO Tryz.prog Tryz.f19.ntmps (Tryz.f19.body.getD .skip)=IH:=by kernel_rfl
theorem aa2:nM Tryz.prog Tryz.f19.ntmps Tryz.f19.results.toList=[.bP 2]:=by kernel_rfl
theorem aa0 {args:List V} {h:ai} {K:V->ai->Prop} (ay:Nat.ble args.length 25=true) (H:gC Tryz.prog IH (bd.bC args) h fun e r ab=>e.ends/\∃ad,qn (r eS).list ab=some ad/\∃ah,lo r ad [.bP 2]=some ah/\K (oneOf ah) ad):db Tryz.prog 19 args h K:=
 acs follows Cw Tryz.func19 (c:=Tryz.f19.body.getD .skip) (by kernel_rfl) (by kernel_rfl) (by kernel_rfl) ay aa1 aa2 H
def Qh:aW:=
 .seq (.aq [jK 1 0,dK 2])
 (.seq (.seq (.aq [fB 3 1,⟨some 4,.call 58 [(.t 3)],none,[3]⟩,mX 5 4])
 (.cond (.t 5)
 (.seq (.aq [Ar 2])
 (.ret))
 (.skip)))
 (.seq (.seq (.aq [fB 6 1,⟨some 7,.call 31 [(.t 6)],none,[6]⟩,As 8 7,af 9 8,Aq 10 1 9,⟨some 11,.call 59 [(.t 10)],(some (9,false)),[10,9]⟩,DA 12 11 9,hz 13 9 12])
 (.cond (.t 13)
 (.seq (.aq [⟨some 2,.b1 (.c (.int .i64 3)),none,[]⟩])
 (.ret))
 (.skip)))
 (.seq (.aq [dK 2])
 (.ret))))
theorem aa4:dD 20 14 Tryz.f20 Qh [.t 2]:=⟨Tryz.func20,by kernel_rfl⟩
def Qi:aW:=
 .seq (.aq [jK 2 0,jK 3 1,fr 4])
 (.seq (.aq [dh 5 2,bt 6 5,dh 7 3,bt 8 7,DD 9 6 8,af 10 9,r0 11 2 10,gE 12 11 10,r0 13 3 10,gE 14 13 10,xT 15 12 14 10,eC 16 10 15,af 17 16,xW 18 2 17,gE 19 18 17,xW 20 3 17,gE 21 20 17,HI 22 19 21 17,eC 23 17 22,af 24 23,tu 25 2 24,gE 26 25 24,tu 27 3 24,gE 28 27 24,Dv 29 26 28 24,eC 30 24 29,af 4 30])
 (.ret))
theorem aa5:dD 25 31 Tryz.f25 Qi [.t 4]:=⟨Tryz.func25,by kernel_rfl⟩
def Qk:aW:=
 .seq (.seq (.aq [af 3 2,af 4 0,ea 5 4,fs 6 3 5])
 (.cond (.t 6)
 (.skip)
 (.exit 0)))
 (.seq (.block 1 (.seq (.aq [af 9 0,af 10 2,kd 11 9 10,h_ 12 11,bt 13 12,⟨some 14,.call 26 [(.t 13)],none,[13]⟩])
 (.aq [af 15 0,af 16 2,⟨some 17,.build [(.int .i64 0),(.int .i64 0),(.str []),.bF] [(0,1,(.c (.int .i64 77)))],none,[]⟩,kd 18 15 16,⟨none,.st 4 (.t 18) (.t 17),none,[18,17]⟩])))
 (.aq [af 7 2,dW 8 7,af 2 8]))
def Qj:aW:=
 .seq (.aq [dK 2])
 (.block 0 (.loop Qk))
theorem aa6:dD 26 19 Tryz.f26 Qj []:=⟨Tryz.func26,by kernel_rfl⟩
def Qm:aW:=
 .seq (.seq (.aq [af 5 4,h_ 6 1,bt 7 6,ea 8 7,fs 9 5 8])
 (.cond (.t 9)
 (.skip)
 (.exit 0)))
 (.seq (.block 1 (.aq [af 12 3,h_ 13 1,bt 14 13,af 15 4,kd 16 14 15,fB 17 16,⟨some 18,.call 31 [(.t 17)],none,[17]⟩,vh 19 12 18,af 3 19]))
 (.aq [af 10 4,dW 11 10,af 4 11]))
def Ql:aW:=
 .seq (.aq [jK 1 0,dK 2])
 (.seq (.aq [Dw 3])
 (.seq (.seq (.aq [dK 4])
 (.block 0 (.loop Qm)))
 (.seq (.aq [af 20 3,af 2 20])
 (.ret))))
theorem aa7:dD 31 21 Tryz.f31 Ql [.t 2]:=⟨Tryz.func31,by kernel_rfl⟩
def aa8:aW:=
 .aq [mm 6,⟨none,.st 4 (.t 6) (.t 11),none,[6,11]⟩]
def aa9:aW:=
 .block 1 (.seq (.aq [dh 12 6,bt 13 12,qL 14 13,af 15 14,gE 16 4 15,r0 17 6 15,gE 18 17 15,⟨some 19,.look .int (.bool false) false (.t 16) (.t 18),(some (15,true)),[16,18,15]⟩,⟨some 20,.un .not (.t 19),(some (15,true)),[19,15]⟩,eC 21 15 20])
 (.cond (.t 21)
 (.seq (.aq [bt 22 4,c' 23 6,bt 24 23,⟨none,.e0 .int (.t 22) (.t 24) (.c (.bool true)),none,[22,24]⟩])
 (.aq [bt 25 3,c' 26 6,bt 27 26,⟨some 28,.iw 1 1 [(.int .i64 0)] [(0,1,(.t 27))],none,[27]⟩,Au 29 25 28,⟨none,.st 1 (.t 3) (.t 29),none,[3,29]⟩]))
 (.skip)))
def c34:aW:=
 .seq (.aq [jK 1 0,gD 2])
 (.seq (.aq [⟨some 3,.new [.bF],none,[]⟩])
 (.seq (.aq [⟨some 7,.nG none,none,[]⟩,⟨some 4,.new [.j6],none,[]⟩,⟨none,.st 1 (.t 4) (.t 7),none,[4,7]⟩])
 (.seq (.seq (.aq [fB 8 1,⟨some 9,.call 56 [(.t 8)],none,[8]⟩])
 (.block 0 (aW.range (.t 9) [10,11] 31 aa8 aa9)))
 (.seq (.aq [bt 30 3,af 2 30])
 (.ret)))))
def Qo:aW:=
 .seq (.seq (.aq [af 7 6,af 8 0,ea 9 8,fs 10 7 9,af 11 10,en 12 5 11,en 13 1 11,⟨some 14,.bin (.int .leq) (.t 12) (.t 13),(some (11,true)),[12,13,11]⟩,eC 15 11 14])
 (.cond (.t 15)
 (.skip)
 (.exit 0)))
 (.seq (.block 1 (.seq (.aq [af 18 5,dW 19 18,af 20 0,af 21 6,kd 22 20 21,hQ 23 22,bt 24 23,mY 25 24,⟨some 26,.bin (.int .quo) (.t 25) (.c (.int .i64 100)),none,[25]⟩,vh 27 19 26,af 5 27])
 (.aq [af 28 5,af 29 0,af 30 6,kd 31 29 30,h_ 32 31,bt 33 32,af 34 1,af 35 5,⟨some 36,.bin (.int .sub) (.t 34) (.t 35),none,[34,35]⟩,⟨some 37,.call 46 [(.t 33),(.t 36)],none,[33,36]⟩,vh 38 28 37,af 5 38])))
 (.aq [af 16 6,dW 17 16,af 6 17]))
def Qn:aW:=
 .seq (.aq [dK 4])
 (.seq (.aq [dK 5])
 (.seq (.seq (.aq [dK 6])
 (.block 0 (.loop Qo)))
 (.seq (.aq [af 39 5,af 4 39])
 (.ret))))
theorem aa_:dD 46 40 Tryz.f46 Qn [.t 4]:=⟨Tryz.func46,by kernel_rfl⟩
def IL:aW:=
 .seq (.aq [fs 76 75 74])
 (.seq (.cond (.t 76)
 (.skip)
 (.exit 2))
 (.seq (.block 3 (.seq (.aq [af 77 75,af 9 77])
 (.draw [af 78 5,af 79 7,bS 80 79,h_ 81 80,bt 82 81,af 83 9,iJ 84 82 83,bt 85 84,af 86 8,bS 87 86,h_ 88 87,bt 89 88,af 90 9,iJ 91 89 90,bt 92 91,⟨some 93,.build [.ej,.ej] [(0,1,(.t 85)),(1,1,(.t 92))],none,[85,92]⟩,⟨some 94,.iw 1 2 [.ej,.ej] [(0,2,(.t 93))],none,[93]⟩,⟨some 95,.app 2 (.t 78) (.t 94),none,[78,94]⟩,af 5 95] [(4,[17]),(7,[17]),(11,[17]),(14,[17])])))
 (.aq [dW 96 75,af 75 96])))
def IM:aW:=
 .seq (.seq (.aq [af 15 5,ea 16 15,DE 17 16])
 (.cond (.t 17)
 (.skip)
 (.exit 0)))
 (.block 1 (.seq (.aq [af 18 5,af 19 5,ea 20 19,HJ 21 20,⟨some 22,.ct 2 (.t 18) (.t 21),none,[18,21]⟩,⟨some 23,.iV 2 (.t 22),none,[22]⟩,⟨some 6,.new [.ej,.ej],none,[]⟩,⟨none,.st 2 (.t 6) (.t 23),none,[6,23]⟩])
 (.seq (.aq [af 24 5,af 25 5,ea 26 25,HJ 27 26,⟨some 28,.fU 2 (.t 24) none (some (.t 27)) none,none,[24,27]⟩,af 5 28])
 (.seq (.draw [⟨some 29,.l3 2 1 (.t 6) (.c (.int .i64 0)),none,[6]⟩,bt 30 29,⟨some 32,.l3 2 1 (.t 6) (.c (.int .i64 1)),none,[6]⟩,bt 33 32,xU 31 30,xU 34 33,af 7 31,af 8 34] [(1,[4]),(3,[4,5])])
 (.seq (.seq (.aq [af 35 7,af 36 8,⟨some 37,.peq false (.t 35) (.t 36),none,[35,36]⟩])
 (.cond (.t 37)
 (.exit 1)
 (.skip)))
 (.seq (.seq (.aq [af 38 7,bS 39 38,c' 40 39,bt 41 40,af 42 41,en 43 8 42,rY 44 43 42,r0 45 44 42,gE 46 45 42,eC 47 42 46])
 (.cond (.t 47)
 (.seq (.seq (.draw [af 48 7,bS 49 48,hQ 50 49,bt 51 50,af 52 8,bS 53 52,hQ 54 53,bt 55 54,⟨some 56,.bin (.str .neq) (.t 51) (.t 55),none,[51,55]⟩,af 57 56,gX 58 7 57,Dy 59 58 57,⟨some 60,.eJ 3 (.t 59),(some (57,false)),[59,57]⟩,pN 61 60 57,Av 62 61 57,gX 63 8 57,Dy 64 63 57,⟨some 65,.eJ 3 (.t 64),(some (57,false)),[64,57]⟩,pN 66 65 57,Av 67 66 57,⟨some 68,.bin (.int .neq) (.t 62) (.t 67),(some (57,false)),[62,67,57]⟩,hz 69 57 68] [])
 (.cond (.t 69)
 (.seq (.aq [fr 4])
 (.ret))
 (.skip)))
 (.seq (.aq [af 70 7,bS 71 70,h_ 72 71,bt 73 72,ea 74 73,dK 75])
 (.block 2 (.loop IL))))
 (.skip)))
 (.seq (.seq (.aq [af 97 8,bS 98 97,c' 99 98,bt 100 99,mX 101 100])
 (.cond (.t 101)
 (.aq [af 102 8,af 103 7,af 7 102,af 8 103])
 (.skip)))
 (.seq (.aq [af 104 8,bS 105 104,nU 106 105,bt 107 106,af 10 107])
 (.seq (.seq (.aq [af 108 10,HK 109 108,af 110 109,gX 111 7 110,Dy 112 111 110,⟨some 113,.eJ 4 (.t 112),(some (110,false)),[112,110]⟩,pN 114 113 110,⟨some 115,.bin (.int .geq) (.t 114) (.c (.int .i64 0)),(some (110,false)),[114,110]⟩,gX 116 115 110,en 117 7 116,rY 118 117 116,⟨some 119,.eJ 4 (.t 118),(some (116,true)),[118,116]⟩,gE 120 119 116,en 121 10 116,HL 122 120 121 116,HM 123 116 122 110,hz 124 110 123])
 (.cond (.t 124)
 (.aq [af 125 7,bS 126 125,nU 127 126,bt 128 127,af 10 128])
 (.skip)))
 (.aq [af 129 7,af 130 8,af 131 8,af 132 10,bS 133 129,dh 134 133,⟨none,.st 1 (.t 134) (.t 131),none,[134,131]⟩,bS 135 130,nU 136 135,⟨none,.st 1 (.t 136) (.t 132),none,[136,132]⟩]))))))))))
def Qq:aW:=
 .seq (.aq [fr 4])
 (.seq (.aq [af 11 0,af 12 1,⟨some 13,.build [.ej,.ej] [(0,1,(.t 11)),(1,1,(.t 12))],none,[11,12]⟩,⟨some 14,.iw 1 2 [.ej,.ej] [(0,2,(.t 13))],none,[13]⟩,af 5 14])
 (.seq (.block 0 (.loop IM))
 (.seq (.aq [rZ 4])
 (.ret))))
theorem abb:dD 48 137 Tryz.f48 Qq [.t 4]:=⟨Tryz.func48,by kernel_rfl⟩
def Qr:aW:=
 .seq (.aq [fs 39 38 37])
 (.seq (.cond (.t 39)
 (.skip)
 (.exit 0))
 (.seq (.block 1 (.seq (.aq [kd 40 36 38,fB 41 40,mm 9,⟨none,.st 4 (.t 9) (.t 41),none,[9,41]⟩])
 (.draw [af 42 7,af 43 7,bS 44 43,h_ 45 44,bt 46 45,af 47 0,fB 48 9,⟨some 49,.call 49 [(.t 47),(.t 48)],none,[47,48]⟩,⟨some 50,.iw 1 1 [.ej] [(0,1,(.t 49))],none,[49]⟩,Au 51 46 50,bS 52 42,h_ 53 52,⟨none,.st 1 (.t 53) (.t 51),none,[53,51]⟩] [(4,[7,9]),(6,[7])])))
 (.aq [dW 54 38,af 38 54])))
def c49:aW:=
 .seq (.aq [jK 3 1,⟨some 4,.b1 (.c .ej),none,[]⟩])
 (.seq (.seq (.aq [dh 10 3,bt 11 10,qL 12 11])
 (.cond (.t 12)
 (.seq (.aq [af 14 0,c' 15 3,bt 16 15,⟨some 17,.look .int .ej true (.t 14) (.t 16),none,[14,16]⟩,af 13 17,lL 18 13,kP 19 13,af 5 18,af 6 19])
 (.seq (.seq (.aq [af 20 6,mX 21 20])
 (.cond (.t 21)
 (.seq (.aq [c' 22 3,bt 23 22,⟨some 24,.build [.ej,(.bool false),(.str []),.bF,(.int .i64 0)] [(4,1,(.t 23))],none,[23]⟩,jK 25 24,af 5 25])
 (.aq [af 26 0,c' 27 3,bt 28 27,af 29 5,⟨none,.e0 .int (.t 26) (.t 28) (.t 29),none,[26,28,29]⟩]))
 (.skip)))
 (.seq (.aq [af 30 5,af 4 30])
 (.ret))))
 (.skip)))
 (.seq (.aq [hQ 31 3,bt 32 31,⟨some 33,.build [.ej,(.bool false),(.str []),.bF,(.int .i64 0)] [(1,1,(.c (.bool true))),(2,1,(.t 32)),(4,1,(.c (.int .i64 (-1))))],none,[32]⟩,jK 34 33,af 7 34])
 (.seq (.seq (.aq [h_ 35 3,bt 36 35,ea 37 36,dK 38])
 (.block 0 (.loop Qr)))
 (.seq (.aq [af 55 7,af 4 55])
 (.ret)))))
theorem abd:dD 49 56 Tryz.f49 c49 [.t 4]:=⟨Tryz.func49,by kernel_rfl⟩
def c51:aW:=
 .seq (.aq [jK 1 0,⟨some 2,.b1 (.c .mN),none,[]⟩])
 (.seq (.aq [⟨some 3,.fn 78 [(.t 1)],none,[1]⟩,af 2 3])
 (.ret))
theorem abg:dD 51 4 Tryz.f51 c51 [.t 2]:=⟨Tryz.func51,by kernel_rfl⟩
def Qt:aW:=
 .seq (.aq [fs 40 39 38])
 (.seq (.cond (.t 40)
 (.skip)
 (.exit 0))
 (.seq (.block 1 (.seq (.aq [iJ 41 37 39,bt 42 41,af 10 42])
 (.seq (.seq (.aq [af 43 0,af 44 10,⟨some 45,.call 52 [(.t 43),(.t 44)],none,[43,44]⟩,mX 46 45])
 (.cond (.t 46)
 (.seq (.aq [fr 4])
 (.ret))
 (.skip)))
 (.seq (.aq [af 47 10,xU 48 47,af 10 48])
 (.seq (.aq [af 49 7,af 50 0,bS 51 50,dh 52 51,bt 53 52,af 54 10,HG 55 53 54,vh 56 49 55,⟨some 57,.uD [(.t 56),(.c (.int .i64 4097))],none,[56]⟩,af 7 57])
 (.aq [af 58 8,af 59 0,bS 60 59,c' 61 60,bt 62 61,af 63 10,HG 64 62 63,DC 65 58 64,af 8 65]))))))
 (.aq [dW 66 39,af 39 66])))
def Qs:aW:=
 .seq (.aq [fr 4])
 (.seq (.aq [af 11 1,xU 12 11,af 1 12])
 (.seq (.seq (.aq [af 14 0,bS 15 14,dh 16 15,bt 17 16,af 18 1,⟨some 19,.ry (.int .i64 0) true (.t 17) (.t 18),none,[17,18]⟩,af 13 19,lL 20 13,kP 21 13,af 5 20,af 6 21])
 (.seq (.aq [af 22 6])
 (.cond (.t 22)
 (.seq (.aq [rZ 4])
 (.ret))
 (.skip))))
 (.seq (.seq (.aq [af 23 0,bS 24 23,hQ 25 24,bt 26 25,af 27 1,⟨some 28,.ry (.bool false) false (.t 26) (.t 27),none,[26,27]⟩])
 (.cond (.t 28)
 (.seq (.aq [fr 4])
 (.ret))
 (.skip)))
 (.seq (.aq [af 29 0,bS 30 29,hQ 31 30,bt 32 31,af 33 1,⟨none,.xD (.t 32) (.t 33) (.c (.bool true)),none,[32,33]⟩])
 (.seq (.aq [Dw 7,dK 8])
 (.seq (.seq (.aq [af 34 1,bS 35 34,h_ 36 35,bt 37 36,ea 38 37,dK 39])
 (.block 0 (.loop Qt)))
 (.seq (.aq [af 67 0,bS 68 67,hQ 69 68,bt 70 69,af 71 1,⟨none,.xD (.t 70) (.t 71) (.c (.bool false)),none,[70,71]⟩])
 (.seq (.draw [af 72 0,bS 73 72,dh 74 73,bt 75 74,af 76 1,af 77 0,bS 78 77,c' 79 78,bt 80 79,af 81 1,af 82 7,af 83 8,dW 84 83,⟨some 85,.w8 (.int .i64 0) (.t 75) (.t 76),none,[75,76]⟩,kP 86 85,⟨none,.vT (.t 75) (.t 86) (.t 82),none,[75,86,82]⟩,⟨some 87,.w8 (.int .i64 0) (.t 80) (.t 81),none,[80,81]⟩,kP 88 87,⟨none,.vT (.t 80) (.t 88) (.t 84),none,[80,88,84]⟩] [(3,[13]),(8,[13])])
 (.seq (.aq [rZ 4])
 (.ret))))))))))
theorem abh:dD 52 89 Tryz.f52 Qs [.t 4]:=⟨Tryz.func52,by kernel_rfl⟩
def Qv:aW:=
 .seq (.seq (.aq [af 5 3,bS 6 5,dh 7 6,bt 8 7,⟨some 9,.bin (.jT true 1) (.t 8) (.c .ej),none,[8]⟩])
 (.cond (.t 9)
 (.skip)
 (.exit 0)))
 (.block 1 (.aq [af 10 3,bS 11 10,dh 12 11,bt 13 12,af 3 13]))
def Qw:aW:=
 .seq (.seq (.aq [af 14 0,bS 15 14,dh 16 15,bt 17 16,⟨some 18,.bin (.jT true 1) (.t 17) (.c .ej),none,[17]⟩])
 (.cond (.t 18)
 (.skip)
 (.exit 2)))
 (.block 3 (.aq [af 19 0,af 20 0,bS 21 20,dh 22 21,bt 23 22,af 24 3,af 0 23,bS 25 19,dh 26 25,⟨none,.st 1 (.t 26) (.t 24),none,[26,24]⟩]))
def Qu:aW:=
 .seq (.aq [⟨some 2,.b1 (.c .ej),none,[]⟩])
 (.seq (.aq [af 4 0,af 3 4])
 (.seq (.block 0 (.loop Qv))
 (.seq (.block 2 (.loop Qw))
 (.seq (.aq [af 27 3,af 2 27])
 (.ret)))))
theorem abi:dD 53 28 Tryz.f53 Qu [.t 2]:=⟨Tryz.func53,by kernel_rfl⟩
def Qy:aW:=
 .seq (.aq [fs 29 28 27])
 (.seq (.cond (.t 29)
 (.skip)
 (.exit 0))
 (.seq (.block 1 (.seq (.aq [iJ 30 26 28,bt 31 30,af 5 31])
 (.draw [h_ 32 3,bt 33 32,af 34 5,⟨some 35,.call 54 [(.t 34)],none,[34]⟩,tt 36 35,vf 37 33 36,h_ 38 3,⟨none,.st 1 (.t 38) (.t 37),none,[38,37]⟩] [(1,[3,5])])))
 (.aq [dW 39 28,af 28 39])))
def Qx:aW:=
 .seq (.aq [mm 2])
 (.seq (.aq [af 6 0,xU 7 6,af 0 7])
 (.seq (.seq (.aq [af 8 0,bS 9 8,c' 10 9,bt 11 10,mX 12 11])
 (.cond (.t 12)
 (.seq (.aq [af 13 0,bS 14 13,nU 15 14,bt 16 15,Ap 17 16,⟨none,.st 4 (.t 2) (.t 17),none,[2,17]⟩])
 (.ret))
 (.skip)))
 (.seq (.aq [af 18 0,bS 19 18,hQ 20 19,bt 21 20,Of 22 21,mm 3,⟨none,.st 4 (.t 3) (.t 22),none,[3,22]⟩])
 (.seq (.seq (.aq [af 23 0,bS 24 23,h_ 25 24,bt 26 25,ea 27 26,dK 28])
 (.block 0 (.loop Qy)))
 (.seq (.aq [fB 40 3,⟨none,.st 4 (.t 2) (.t 40),none,[2,40]⟩])
 (.ret))))))
theorem abj:dD 54 41 Tryz.f54 Qx [.sj 2 4]:=⟨Tryz.func54,by kernel_rfl⟩
def IQ:aW:=
 .seq (.seq (.aq [af 23 7,af 24 0,ea 25 24,fs 26 23 25])
 (.cond (.t 26)
 (.skip)
 (.exit 0)))
 (.seq (.block 1 (.seq (.aq [af 29 6,af 30 0,af 31 7,kd 32 30 31,fB 33 32,⟨some 34,.call 79 [(.t 29),(.t 33)],none,[29,33]⟩,af 8 34])
 (.seq (.aq [af 35 6,af 36 1,af 37 7,kd 38 36 37,fB 39 38,⟨some 40,.call 79 [(.t 35),(.t 39)],none,[35,39]⟩,af 9 40])
 (.aq [af 41 6,af 42 8,af 43 9,⟨some 44,.call 80 [(.t 41),(.t 42),(.t 43)],none,[41,42,43]⟩]))))
 (.aq [af 27 7,dW 28 27,af 7 28]))
def IS:aW:=
 .seq (.seq (.aq [af 55 11,af 56 6,bS 57 56,dh 58 57,bt 59 58,ea 60 59,fs 61 55 60])
 (.cond (.t 61)
 (.skip)
 (.exit 2)))
 (.seq (.block 3 (.seq (.aq [af 64 6,af 65 11,af 66 10,⟨some 67,.call 81 [(.t 64),(.t 65),(.t 66)],none,[64,65,66]⟩])
 (.cond (.t 67)
 (.seq (.aq [gD 4,⟨some 5,.b1 (.c (.int .i64 291)),none,[]⟩])
 (.ret))
 (.skip))))
 (.aq [af 62 11,dW 63 62,af 11 63]))
def IT:aW:=
 .seq (.seq (.aq [af 80 15,af 81 6,bS 82 81,c' 83 82,bt 84 83,ea 85 84,fs 86 80 85])
 (.cond (.t 86)
 (.skip)
 (.exit 4)))
 (.seq (.block 5 (.seq (.aq [af 89 6,bS 90 89,c' 91 90,bt 92 91,af 93 15,qK 94 92 93,c' 95 94,c' 96 95,bt 97 96,af 16 97])
 (.seq (.seq (.aq [af 98 6,af 99 16,vi 100 98 99,af 101 16,DD 102 100 101])
 (.cond (.t 102)
 (.exit 5)
 (.skip)))
 (.seq (.aq [af 104 6,af 105 16,af 106 12,af 107 13,⟨some 108,.call 83 [(.t 104),(.t 105),(.t 106),(.t 107)],none,[104,105,106,107]⟩,af 103 108,lL 109 103,kP 110 103,af 17 109,af 18 110])
 (.seq (.aq [af 111 17,As 112 111,af 113 112,gX 114 18 113,DA 115 114 113,hz 116 113 115])
 (.cond (.t 116)
 (.seq (.aq [gD 4,⟨some 5,.b1 (.c (.int .i64 3)),none,[]⟩])
 (.ret))
 (.skip)))))))
 (.aq [af 87 15,dW 88 87,af 15 88]))
def IU:aW:=
 .seq (.seq (.aq [af 117 19,af 118 6,bS 119 118,c' 120 119,bt 121 120,ea 122 121,fs 123 117 122])
 (.cond (.t 123)
 (.skip)
 (.exit 6)))
 (.seq (.block 7 (.seq (.aq [af 126 6,bS 127 126,c' 128 127,bt 129 128,af 130 19,qK 131 129 130,c' 132 131,c' 133 132,bt 134 133,af 20 134])
 (.seq (.aq [af 135 6,af 136 20,vi 137 135 136,af 138 20,vg 139 137 138])
 (.cond (.t 139)
 (.draw [af 140 14,af 141 6,bS 142 141,c' 143 142,bt 144 143,af 145 19,qK 146 144 145,dh 147 146,bt 148 147,af 149 6,af 150 20,⟨some 151,.call 84 [(.t 149),(.t 150)],none,[149,150]⟩,HH 152 148 151,DB 153 152,xV 154 140 153,af 14 154] [(4,[11,14]),(8,[11,14])])
 (.skip)))))
 (.aq [af 124 19,dW 125 124,af 19 125]))
def Qz:aW:=
 .seq (.aq [gD 4,dK 5])
 (.seq (.aq [⟨some 21,.build [.bF,.bF,(.bool false)] [],none,[]⟩,jK 22 21,af 6 22])
 (.seq (.seq (.aq [dK 7])
 (.block 0 (.loop IQ)))
 (.seq (.seq (.aq [af 45 6,bS 46 45,hQ 47 46,bt 48 47])
 (.cond (.t 48)
 (.seq (.aq [gD 4,⟨some 5,.b1 (.c (.int .i64 290)),none,[]⟩])
 (.ret))
 (.skip)))
 (.seq (.aq [af 49 6,bS 50 49,dh 51 50,bt 52 51,ea 53 52,HN 54 53 53,af 10 54])
 (.seq (.seq (.aq [dK 11])
 (.block 2 (.loop IS)))
 (.seq (.draw [af 68 6,bS 69 68,dh 70 69,bt 71 70,ea 72 71,HN 73 72 72,af 74 6,bS 75 74,dh 76 75,bt 77 76,ea 78 77,HN 79 78 78,af 12 73,af 13 79] [(3,[14]),(9,[14])])
 (.seq (.aq [gD 14])
 (.seq (.seq (.aq [dK 15])
 (.block 4 (.loop IT)))
 (.seq (.seq (.aq [dK 19])
 (.block 6 (.loop IU)))
 (.seq (.aq [af 155 14,⟨some 156,.call 85 [(.t 155)],none,[155]⟩,af 4 156,dK 5])
 (.ret)))))))))))
theorem abk:dD 55 157 Tryz.f55 Qz [.t 4,.t 5]:=⟨Tryz.func55,by kernel_rfl⟩
def QA:aW:=
 .seq (.aq [jK 1 0,⟨some 2,.b1 (.c .mN),none,[]⟩])
 (.seq (.aq [⟨some 3,.fn 86 [(.t 1)],none,[1]⟩,af 2 3])
 (.ret))
theorem abm:dD 56 4 Tryz.f56 QA [.t 2]:=⟨Tryz.func56,by kernel_rfl⟩
def QB:aW:=
 .seq (.aq [jK 1 0,fr 2])
 (.seq (.seq (.aq [dh 3 1,bt 4 3])
 (.block 0 (.seq (.aq [qL 6 4,af 5 6])
 (.cond (.t 5)
 (.seq (.aq [c' 7 1,bt 8 7,DF 9 8,af 10 9,r0 11 1 10,gE 12 11 10,⟨some 13,.bin (.int .leq) (.t 12) (.c (.int .i64 1048575)),(some (10,true)),[12,10]⟩,eC 14 10 13,af 15 14,xW 16 1 15,gE 17 16 15,⟨some 18,.bin (.str .eql) (.t 17) (.c (.str [])),(some (15,true)),[17,15]⟩,eC 19 15 18,af 20 19,tu 21 1 20,gE 22 21 20,xX 23 22 20,HE 24 23 20,eC 25 20 24,af 2 25])
 (.ret))
 (.seq (.aq [⟨some 27,.bin (.int .eql) (.t 4) (.c (.int .i64 2)),none,[4]⟩,af 26 27])
 (.cond (.t 26)
 (.seq (.seq (.aq [hQ 28 1,bt 29 28,⟨some 30,.bin (.str .eql) (.t 29) (.c (.str [45,62])),none,[29]⟩,af 31 30,⟨some 32,.eJ 2 (.t 1),(some (31,false)),[1,31]⟩,pN 33 32 31,⟨some 34,.bin (.str .eql) (.t 33) (.c (.str [42])),(some (31,false)),[33,31]⟩,hz 35 31 34])
 (.cond (.t 35)
 (.seq (.aq [c' 36 1,bt 37 36,Aw 38 37,af 39 38,tu 40 1 39,gE 41 40 39,xX 42 41 39,⟨some 43,.bin (.int .eql) (.t 42) (.c (.int .i64 2)),(some (39,true)),[42,39]⟩,eC 44 39 43,af 2 44])
 (.ret))
 (.skip)))
 (.seq (.aq [c' 45 1,bt 46 45,Aw 47 46,af 48 47,tu 49 1 48,gE 50 49 48,xX 51 50 48,⟨some 52,.bin (.int .leq) (.t 51) (.c (.int .i64 64)),(some (48,true)),[51,48]⟩,eC 53 48 52,af 54 53,xW 55 1 54,gE 56 55 54,⟨some 57,.call 88 [(.t 56)],(some (54,true)),[56,54]⟩,eC 58 54 57,af 2 58])
 (.ret)))
 (.skip)))))))
 (.seq (.aq [fr 2])
 (.ret)))
theorem abn:dD 57 59 Tryz.f57 QB [.t 2]:=⟨Tryz.func57,by kernel_rfl⟩
def IX:aW:=
 .seq (.seq (.aq [af 68 4,h_ 69 1,bt 70 69,ea 71 70,fs 72 68 71])
 (.cond (.t 72)
 (.skip)
 (.exit 0)))
 (.seq (.block 1 (.seq (.aq [h_ 75 1,bt 76 75,af 77 4,kd 78 76 77,fB 79 78,⟨some 80,.call 58 [(.t 79)],none,[79]⟩,mX 81 80])
 (.cond (.t 81)
 (.seq (.aq [fr 2])
 (.ret))
 (.skip))))
 (.aq [af 73 4,dW 74 73,af 4 74]))
def QC:aW:=
 .seq (.aq [jK 1 0,fr 2])
 (.seq (.seq (.aq [dh 5 1,bt 6 5,qL 7 6])
 (.cond (.t 7)
 (.seq (.aq [c' 8 1,bt 9 8,DF 10 9,af 11 10,r0 12 1 11,gE 13 12 11,⟨some 14,.bin (.int .leq) (.t 13) (.c (.int .i64 1048575)),(some (11,true)),[13,11]⟩,eC 15 11 14,af 16 15,xW 17 1 16,gE 18 17 16,⟨some 19,.bin (.str .eql) (.t 18) (.c (.str [])),(some (16,true)),[18,16]⟩,eC 20 16 19,af 21 20,tu 22 1 21,gE 23 22 21,xX 24 23 21,HE 25 24 21,eC 26 21 25,af 2 26])
 (.ret))
 (.skip)))
 (.seq (.aq [hQ 27 1,bt 28 27,⟨some 29,.bin (.str .eql) (.t 28) (.c (.str [45,62])),none,[28]⟩,af 30 29,⟨some 31,.eJ 2 (.t 1),(some (30,false)),[1,30]⟩,pN 32 31 30,⟨some 33,.bin (.str .eql) (.t 32) (.c (.str [42])),(some (30,false)),[32,30]⟩,hz 34 30 33,af 3 34])
 (.seq (.seq (.aq [dh 35 1,bt 36 35,⟨some 37,.bin (.int .neq) (.t 36) (.c (.int .i64 2)),none,[36]⟩,af 38 37,Dz 39 1 38,pN 40 39 38,⟨some 41,.bin (.int .neq) (.t 40) (.c (.int .i64 0)),(some (38,false)),[40,38]⟩,hz 42 38 41,af 43 42,gX 44 3 43,gX 45 44 43,tu 46 1 45,gE 47 46 45,xX 48 47 45,⟨some 49,.bin (.int .neq) (.t 48) (.c (.int .i64 2)),(some (45,true)),[48,45]⟩,HM 50 45 49 43,hz 51 43 50,af 52 51,gX 53 3 52,⟨some 54,.un .not (.t 53),(some (52,false)),[53,52]⟩,gX 55 54 52,xW 56 1 55,gE 57 56 55,⟨some 58,.call 89 [(.c (.int .i64 3)),(.t 57)],(some (55,true)),[57,55]⟩,⟨some 59,.un .not (.t 58),(some (55,true)),[58,55]⟩,en 60 59 55,⟨some 61,.eJ 3 (.t 1),(some (60,false)),[1,60]⟩,pN 62 61 60,Av 63 62 60,⟨some 64,.bin (.int .gtr) (.t 63) (.c (.int .i64 64)),(some (60,false)),[63,60]⟩,⟨some 65,.pick (.t 60) (.c (.bool true)) (.t 64),(some (55,true)),[60,64,55]⟩,HM 66 55 65 52,hz 67 52 66])
 (.cond (.t 67)
 (.seq (.aq [fr 2])
 (.ret))
 (.skip)))
 (.seq (.seq (.aq [dK 4])
 (.block 0 (.loop IX)))
 (.seq (.aq [rZ 2])
 (.ret))))))
theorem abo:dD 58 82 Tryz.f58 QC [.t 2]:=⟨Tryz.func58,by kernel_rfl⟩
def QE:aW:=
 .seq (.seq (.aq [af 5 4,h_ 6 1,bt 7 6,ea 8 7,fs 9 5 8])
 (.cond (.t 9)
 (.skip)
 (.exit 0)))
 (.seq (.block 1 (.aq [af 12 3,h_ 13 1,bt 14 13,af 15 4,kd 16 14 15,fB 17 16,⟨some 18,.call 59 [(.t 17)],none,[17]⟩,DC 19 12 18,af 3 19]))
 (.aq [af 10 4,dW 11 10,af 4 11]))
def QD:aW:=
 .seq (.aq [jK 1 0,dK 2])
 (.seq (.aq [dK 3])
 (.seq (.seq (.aq [dK 4])
 (.block 0 (.loop QE)))
 (.seq (.aq [af 20 3,dW 21 20,af 2 21])
 (.ret))))
theorem abp:dD 59 22 Tryz.f59 QD [.t 2]:=⟨Tryz.func59,by kernel_rfl⟩
def QH:aW:=
 .seq (.seq (.aq [af 16 6,h_ 17 3,bt 18 17,ea 19 18,fs 20 16 19])
 (.cond (.t 20)
 (.skip)
 (.exit 0)))
 (.seq (.block 1 (.seq (.aq [af 23 0,h_ 24 3,bt 25 24,af 26 6,kd 27 25 26,fB 28 27,⟨some 29,.call 79 [(.t 23),(.t 28)],none,[23,28]⟩,af 7 29])
 (.aq [af 30 5,af 31 7,⟨some 32,.iw 1 1 [(.int .i64 0)] [(0,1,(.t 31))],none,[31]⟩,Au 33 30 32,af 5 33])))
 (.aq [af 21 6,dW 22 21,af 6 22]))
def QG:aW:=
 .seq (.aq [jK 3 1,dK 4])
 (.seq (.seq (.aq [dh 9 3,bt 10 9,qL 11 10])
 (.cond (.t 11)
 (.seq (.aq [af 12 0,c' 13 3,bt 14 13,⟨some 15,.call 103 [(.t 12),(.t 14)],none,[12,14]⟩,af 4 15])
 (.ret))
 (.skip)))
 (.seq (.aq [gD 5])
 (.seq (.seq (.aq [dK 6])
 (.block 0 (.loop QH)))
 (.seq (.aq [af 34 0,bS 35 34,dh 36 35,bt 37 36,ea 38 37,af 8 38])
 (.seq (.draw [af 39 0,af 40 0,bS 41 40,dh 42 41,bt 43 42,hQ 44 3,bt 45 44,Of 46 45,af 47 5,af 48 8,⟨some 49,.build [(.int .i64 0),(.int .i64 0),(.str []),.bF,.bF,(.int .i64 0)] [(0,4,(.t 46)),(4,1,(.t 47)),(5,1,(.t 48))],none,[46,47,48]⟩,Og 50 49,⟨some 51,.app 6 (.t 43) (.t 50),none,[43,50]⟩,bS 52 39,dh 53 52,⟨none,.st 1 (.t 53) (.t 51),none,[53,51]⟩] [(4,[12]),(6,[12])])
 (.seq (.aq [af 54 8,af 4 54])
 (.ret)))))))
theorem abr:dD 79 55 Tryz.f79 QG [.t 4]:=⟨Tryz.func79,by kernel_rfl⟩
def QJ:aW:=
 .seq (.seq (.aq [af 119 8,nU 120 6,bt 121 120,ea 122 121,fs 123 119 122])
 (.cond (.t 123)
 (.skip)
 (.exit 1)))
 (.seq (.block 2 (.draw [af 126 0,nU 127 6,bt 128 127,af 129 8,iJ 130 128 129,bt 131 130,nU 132 7,bt 133 132,af 134 8,iJ 135 133 134,bt 136 135,⟨some 137,.call 80 [(.t 126),(.t 131),(.t 136)],none,[126,131,136]⟩] [(2,[11]),(5,[11]),(7,[11]),(10,[11])]))
 (.aq [af 124 8,dW 125 124,af 8 125]))
def QI:aW:=
 .seq (.aq [af 9 0,af 10 1,vi 11 9 10,af 1 11])
 (.seq (.aq [af 12 0,af 13 2,vi 14 12 13,af 2 14])
 (.seq (.seq (.aq [af 15 1,af 16 2,DD 17 15 16])
 (.cond (.t 17)
 (.ret)
 (.skip)))
 (.seq (.draw [af 18 0,bS 19 18,dh 20 19,bt 21 20,af 22 1,mZ 23 21 22,⟨some 24,.iV 6 (.t 23),none,[23]⟩,af 25 0,bS 26 25,dh 27 26,bt 28 27,af 29 2,mZ 30 28 29,⟨some 31,.iV 6 (.t 30),none,[30]⟩,HO 6,HO 7,⟨none,.st 6 (.t 6) (.t 24),none,[6,24]⟩,⟨none,.st 6 (.t 7) (.t 31),none,[7,31]⟩] [(3,[16]),(6,[16]),(10,[16,17]),(13,[16,17])])
 (.seq (.block 0 (.seq (.aq [dh 33 6,dh 34 33,bt 35 34,qL 36 35,af 37 36,tv 38 7 37,tv 39 38 37,gE 40 39 37,⟨some 41,.bin (.int .eql) (.t 40) (.c (.int .i64 1)),(some (37,true)),[40,37]⟩,eC 42 37 41,af 32 42])
 (.cond (.t 32)
 (.seq (.seq (.aq [dh 43 6,c' 44 43,bt 45 44,dh 46 7,c' 47 46,bt 48 47,fs 49 45 48])
 (.cond (.t 49)
 (.aq [af 50 0,bS 51 50,dh 52 51,bt 53 52,af 54 2,af 55 1,mZ 56 53 54,vj 57 56,⟨none,.st 1 (.t 57) (.t 55),none,[57,55]⟩])
 (.aq [af 58 0,bS 59 58,dh 60 59,bt 61 60,af 62 1,af 63 2,mZ 64 61 62,vj 65 64,⟨none,.st 1 (.t 65) (.t 63),none,[65,63]⟩])))
 (.ret))
 (.seq (.aq [dh 67 6,dh 68 67,bt 69 68,qL 70 69,af 66 70])
 (.cond (.t 66)
 (.seq (.aq [af 71 0,bS 72 71,dh 73 72,bt 74 73,af 75 1,af 76 2,mZ 77 74 75,vj 78 77,⟨none,.st 1 (.t 78) (.t 76),none,[78,76]⟩])
 (.ret))
 (.seq (.aq [dh 80 7,dh 81 80,bt 82 81,qL 83 82,af 79 83])
 (.cond (.t 79)
 (.seq (.aq [af 84 0,bS 85 84,dh 86 85,bt 87 86,af 88 2,af 89 1,mZ 90 87 88,vj 91 90,⟨none,.st 1 (.t 91) (.t 89),none,[91,89]⟩])
 (.ret))
 (.skip))))))))
 (.seq (.seq (.aq [dh 92 6,hQ 93 92,bt 94 93,dh 95 7,hQ 96 95,bt 97 96,⟨some 98,.bin (.str .neq) (.t 94) (.t 97),none,[94,97]⟩,af 99 98,⟨some 100,.eJ 4 (.t 6),(some (99,false)),[6,99]⟩,pN 101 100 99,Av 102 101 99,⟨some 103,.eJ 4 (.t 7),(some (99,false)),[7,99]⟩,pN 104 103 99,Av 105 104 99,⟨some 106,.bin (.int .neq) (.t 102) (.t 105),(some (99,false)),[102,105,99]⟩,hz 107 99 106])
 (.cond (.t 107)
 (.seq (.aq [af 108 0,bS 109 108,hQ 110 109,⟨none,.st 1 (.t 110) (.c (.bool true)),none,[110]⟩])
 (.ret))
 (.skip)))
 (.seq (.aq [af 111 0,bS 112 111,dh 113 112,bt 114 113,af 115 1,af 116 2,mZ 117 114 115,vj 118 117,⟨none,.st 1 (.t 118) (.t 116),none,[118,116]⟩])
 (.seq (.aq [dK 8])
 (.block 1 (.loop QJ)))))))))
theorem abt:dD 80 138 Tryz.f80 QI []:=⟨Tryz.func80,by kernel_rfl⟩
def QL:aW:=
 .seq (.seq (.aq [af 24 7,af 25 0,bS 26 25,dh 27 26,bt 28 27,af 29 1,mZ 30 28 29,nU 31 30,bt 32 31,ea 33 32,fs 34 24 33])
 (.cond (.t 34)
 (.skip)
 (.exit 0)))
 (.seq (.block 1 (.seq (.aq [af 37 0,af 38 0,bS 39 38,dh 40 39,bt 41 40,af 42 1,mZ 43 41 42,nU 44 43,bt 45 44,af 46 7,iJ 47 45 46,bt 48 47,af 49 2,⟨some 50,.call 81 [(.t 37),(.t 48),(.t 49)],none,[37,48,49]⟩])
 (.cond (.t 50)
 (.seq (.aq [rZ 6])
 (.ret))
 (.skip))))
 (.aq [af 35 7,dW 36 35,af 7 36]))
def QK:aW:=
 .seq (.aq [fr 6])
 (.seq (.aq [af 8 0,af 9 1,vi 10 8 9,af 1 10])
 (.seq (.seq (.aq [af 11 2,af 12 1,iJ 13 11 12,bt 14 13,DE 15 14])
 (.cond (.t 15)
 (.seq (.aq [af 16 2,af 17 1,iJ 18 16 17,bt 19 18,qL 20 19,af 6 20])
 (.ret))
 (.skip)))
 (.seq (.aq [af 21 2,af 22 1,iJ 23 21 22,⟨none,.st 1 (.t 23) (.c (.int .i64 1)),none,[23]⟩])
 (.seq (.seq (.aq [dK 7])
 (.block 0 (.loop QL)))
 (.seq (.aq [af 51 2,af 52 1,iJ 53 51 52,⟨none,.st 1 (.t 53) (.c (.int .i64 2)),none,[53]⟩])
 (.seq (.aq [fr 6])
 (.ret)))))))
theorem abu:dD 81 54 Tryz.f81 QK [.t 6]:=⟨Tryz.func81,by kernel_rfl⟩
def QN:aW:=
 .seq (.seq (.aq [af 5 0,bS 6 5,dh 7 6,bt 8 7,af 9 1,mZ 10 8 9,vj 11 10,bt 12 11,af 13 1,vg 14 12 13])
 (.cond (.t 14)
 (.skip)
 (.exit 0)))
 (.block 1 (.aq [af 15 0,bS 16 15,dh 17 16,bt 18 17,af 19 1,mZ 20 18 19,vj 21 20,bt 22 21,af 1 22]))
def QM:aW:=
 .seq (.aq [dK 4])
 (.seq (.block 0 (.loop QN))
 (.seq (.aq [af 23 1,af 4 23])
 (.ret)))
theorem abv:dD 82 24 Tryz.f82 QM [.t 4]:=⟨Tryz.func82,by kernel_rfl⟩
def QP:aW:=
 .seq (.seq (.aq [af 31 12,af 32 0,bS 33 32,dh 34 33,bt 35 34,af 36 1,mZ 37 35 36,nU 38 37,bt 39 38,ea 40 39,fs 41 31 40])
 (.cond (.t 41)
 (.skip)
 (.exit 0)))
 (.seq (.block 1 (.seq (.aq [af 45 0,af 46 0,bS 47 46,dh 48 47,bt 49 48,af 50 1,mZ 51 49 50,nU 52 51,bt 53 52,af 54 12,iJ 55 53 54,bt 56 55,af 57 2,af 58 3,⟨some 59,.call 83 [(.t 45),(.t 56),(.t 57),(.t 58)],none,[45,56,57,58]⟩,af 44 59,lL 60 44,kP 61 44,af 13 60,af 14 61])
 (.seq (.aq [af 62 10,af 63 13,vh 64 62 63,⟨some 65,.uD [(.t 64),(.c (.int .i64 4097))],none,[64]⟩,af 10 65])
 (.aq [af 66 11,af 67 14,DC 68 66 67,af 11 68]))))
 (.aq [af 42 12,dW 43 42,af 12 43]))
def QO:aW:=
 .seq (.aq [dK 8,dK 9])
 (.seq (.aq [af 15 0,af 16 1,vi 17 15 16,af 1 17])
 (.seq (.seq (.aq [af 18 2,af 19 1,iJ 20 18 19,bt 21 20,DE 22 21])
 (.cond (.t 22)
 (.seq (.draw [af 23 2,af 24 1,iJ 25 23 24,bt 26 25,af 27 3,af 28 1,iJ 29 27 28,bt 30 29,af 8 26,af 9 30] [])
 (.ret))
 (.skip)))
 (.seq (.aq [Dw 10,dK 11])
 (.seq (.seq (.aq [dK 12])
 (.block 0 (.loop QP)))
 (.seq (.aq [af 69 2,af 70 1,af 71 10,iJ 72 69 70,⟨none,.st 1 (.t 72) (.t 71),none,[72,71]⟩])
 (.seq (.aq [af 73 3,af 74 1,af 75 11,dW 76 75,iJ 77 73 74,⟨none,.st 1 (.t 77) (.t 76),none,[77,76]⟩])
 (.seq (.aq [af 78 10,af 79 11,dW 80 79,af 8 78,af 9 80])
 (.ret))))))))
theorem abw:dD 83 81 Tryz.f83 QO [.t 8,.t 9]:=⟨Tryz.func83,by kernel_rfl⟩
def QR:aW:=
 .seq (.seq (.aq [af 28 7,nU 29 5,bt 30 29,ea 31 30,fs 32 28 31])
 (.cond (.t 32)
 (.skip)
 (.exit 0)))
 (.seq (.block 1 (.seq (.aq [af 35 0,nU 36 5,bt 37 36,af 38 7,iJ 39 37 38,bt 40 39,⟨some 41,.call 84 [(.t 35),(.t 40)],none,[35,40]⟩,mm 8,⟨none,.st 4 (.t 8) (.t 41),none,[8,41]⟩])
 (.aq [h_ 42 6,bt 43 42,fB 44 8,tt 45 44,vf 46 43 45,h_ 47 6,⟨none,.st 1 (.t 47) (.t 46),none,[47,46]⟩])))
 (.aq [af 33 7,dW 34 33,af 7 34]))
def QQ:aW:=
 .seq (.aq [mm 4])
 (.seq (.draw [af 9 0,bS 10 9,dh 11 10,bt 12 11,af 13 0,af 14 1,HO 5,vi 15 13 14,mZ 16 12 15,⟨some 17,.iV 6 (.t 16),none,[16]⟩,⟨none,.st 6 (.t 5) (.t 17),none,[5,17]⟩] [(3,[7,10]),(9,[10])])
 (.seq (.aq [dh 18 5,dh 19 18,bt 20 19,dh 21 5,c' 22 21,bt 23 22,dh 24 5,hQ 25 24,bt 26 25,⟨some 27,.build [(.int .i64 0),(.int .i64 0),(.str []),.bF] [(0,1,(.t 20)),(1,1,(.t 23)),(2,1,(.t 26))],none,[20,23,26]⟩,mm 6,⟨none,.st 4 (.t 6) (.t 27),none,[6,27]⟩])
 (.seq (.seq (.aq [dK 7])
 (.block 0 (.loop QR)))
 (.seq (.aq [fB 48 6,⟨none,.st 4 (.t 4) (.t 48),none,[4,48]⟩])
 (.ret)))))
theorem abx:dD 84 49 Tryz.f84 QQ [.sj 4 4]:=⟨Tryz.func84,by kernel_rfl⟩
def QT:aW:=
 .seq (.seq (.draw [af 13 5,af 14 3,ea 15 14,fs 16 13 15,af 17 16,en 18 3 17,en 19 5 17,⟨some 20,.ct 5 (.t 18) (.t 19),(some (17,true)),[18,19,17]⟩,tv 21 20 17,gE 22 21 17,en 23 0 17,en 24 4 17,⟨some 25,.ct 5 (.t 23) (.t 24),(some (17,true)),[23,24,17]⟩,tv 26 25 17,gE 27 26 17,HL 28 22 27 17,eC 29 17 28] [])
 (.cond (.t 29)
 (.skip)
 (.exit 2)))
 (.block 3 (.aq [af 30 5,dW 31 30,af 5 31]))
def QU:aW:=
 .seq (.seq (.aq [af 7 4,af 8 0,ea 9 8,fs 10 7 9])
 (.cond (.t 10)
 (.skip)
 (.exit 0)))
 (.seq (.block 1 (.seq (.aq [dK 5])
 (.seq (.block 2 (.loop QT))
 (.seq (.aq [⟨some 32,.iw 0 5 [(.int .i64 0),(.int .i64 0),(.int .i64 0),(.str []),.bF] [],none,[]⟩,af 33 3,af 34 5,⟨some 35,.fU 5 (.t 33) (some (.t 34)) none none,none,[33,34]⟩,xV 36 32 35,af 6 36])
 (.draw [af 37 3,af 38 5,af 39 5,⟨some 40,.fU 5 (.t 37) none (some (.t 38)) (some (.t 39)),none,[37,38,39]⟩,af 41 0,af 42 4,qK 43 41 42,⟨some 44,.iV 5 (.t 43),none,[43]⟩,DB 45 44,af 47 6,xV 46 40 45,xV 48 46 47,af 3 48] [(7,[10])])))))
 (.aq [af 11 4,dW 12 11,af 4 12]))
def QS:aW:=
 .seq (.aq [gD 2])
 (.seq (.aq [gD 3])
 (.seq (.seq (.aq [dK 4])
 (.block 0 (.loop QU)))
 (.seq (.aq [af 49 3,af 2 49])
 (.ret))))
theorem aby:dD 85 50 Tryz.f85 QS [.t 2]:=⟨Tryz.func85,by kernel_rfl⟩
def QV:aW:=
 .seq (.aq [jK 2 0])
 (.seq (.aq [⟨some 3,.new [.mN],none,[]⟩])
 (.seq (.aq [⟨some 4,.fn 87 [(.t 2),(.t 3)],none,[2,3]⟩,⟨none,.st 1 (.t 3) (.t 4),none,[3,4]⟩])
 (.aq [bt 5 3,fB 6 1,⟨some 7,.o2 (.t 5) [(.c (.int .i64 1)),(.t 6)],none,[5,6]⟩])))
theorem abz:dD 86 8 Tryz.f86 QV []:=⟨Tryz.func86,by kernel_rfl⟩
def QX:aW:=
 .seq (.aq [fs 18 17 16])
 (.seq (.cond (.t 18)
 (.skip)
 (.exit 0))
 (.seq (.block 1 (.seq (.aq [kd 19 15 17,fB 20 19,mm 8,⟨none,.st 4 (.t 8) (.t 20),none,[8,20]⟩])
 (.seq (.aq [bt 21 3,af 22 0,dW 23 22,fB 24 8,⟨some 25,.o2 (.t 21) [(.t 23),(.t 24)],none,[21,23,24]⟩,mX 26 25])
 (.cond (.t 26)
 (.seq (.aq [fr 6])
 (.ret))
 (.skip)))))
 (.aq [dW 27 17,af 17 27])))
def QW:aW:=
 .seq (.aq [jK 5 1,fr 6])
 (.seq (.seq (.aq [bt 9 2,af 10 0,fB 11 5,⟨some 12,.o2 (.t 9) [(.t 10),(.t 11)],none,[9,10,11]⟩,mX 13 12])
 (.cond (.t 13)
 (.seq (.aq [fr 6])
 (.ret))
 (.skip)))
 (.seq (.seq (.aq [h_ 14 5,bt 15 14,ea 16 15,dK 17])
 (.block 0 (.loop QX)))
 (.seq (.aq [rZ 6])
 (.ret))))
theorem abA:dD 87 28 Tryz.f87 QW [.t 6]:=⟨Tryz.func87,by kernel_rfl⟩
def QY:aW:=
 .seq (.aq [fr 2])
 (.seq (.aq [af 6 0,⟨some 7,.call 104 [(.t 6)],none,[6]⟩,af 5 7,lL 8 5,kP 9 5,⟨some 4,.new [(.int .i64 0),(.int .i64 0)],none,[]⟩,af 3 8,⟨none,.st 2 (.t 4) (.t 9),none,[4,9]⟩])
 (.seq (.aq [dh 10 4,bt 11 10,Aw 12 11,af 13 12,en 14 3 13,xX 15 14 13,⟨some 16,.bin (.int .eql) (.t 15) (.c (.int .i64 1)),(some (13,true)),[15,13]⟩,eC 17 13 16,af 18 17,en 19 3 18,⟨some 20,.ct 4 (.t 19) (.c (.int .i64 0)),(some (18,true)),[19,18]⟩,tv 21 20 18,gE 22 21 18,⟨some 23,.bin (.int .eql) (.t 22) (.c (.int .i64 3)),(some (18,true)),[22,18]⟩,eC 24 18 23,af 25 24,en 26 3 25,⟨some 27,.ct 4 (.t 26) (.c (.int .i64 0)),(some (25,true)),[26,25]⟩,tu 28 27 25,gE 29 28 25,en 30 0 25,HI 31 29 30 25,eC 32 25 31,af 2 32])
 (.ret)))
theorem abB:dD 88 33 Tryz.f88 QY [.t 2]:=⟨Tryz.func88,by kernel_rfl⟩
def Q0:aW:=
 .seq (.seq (.aq [af 13 5,af 14 1,mY 15 14,fs 16 13 15])
 (.cond (.t 16)
 (.skip)
 (.exit 0)))
 (.seq (.block 1 (.seq (.aq [af 19 1,af 20 5,DG 21 19 20,⟨some 22,.call 105 [(.t 21)],none,[21]⟩,mX 23 22])
 (.cond (.t 23)
 (.seq (.aq [fr 4])
 (.ret))
 (.skip))))
 (.aq [af 17 5,dW 18 17,af 5 18]))
def QZ:aW:=
 .seq (.aq [fr 4])
 (.seq (.seq (.aq [af 6 1,⟨some 7,.bin (.str .eql) (.t 6) (.c (.str [])),none,[6]⟩,af 8 7,gX 9 1 8,⟨some 10,.len .str (.t 9),(some (8,false)),[9,8]⟩,⟨some 11,.bin (.int .gtr) (.t 10) (.c (.int .i64 64)),(some (8,false)),[10,8]⟩,hz 12 8 11])
 (.cond (.t 12)
 (.seq (.aq [fr 4])
 (.ret))
 (.skip)))
 (.seq (.seq (.aq [dK 5])
 (.block 0 (.loop Q0)))
 (.seq (.seq (.aq [af 24 0])
 (.block 2 (.seq (.aq [⟨some 26,.bin (.int .eql) (.t 24) (.c (.int .i64 4)),none,[24]⟩,af 25 26])
 (.cond (.t 25)
 (.seq (.aq [af 27 1,DH 28 27,⟨some 29,.call 106 [(.t 28),(.c (.int .u8 65)),(.c (.int .u8 90))],none,[28]⟩,af 4 29])
 (.ret))
 (.seq (.aq [⟨some 31,.bin (.int .eql) (.t 24) (.c (.int .i64 5)),none,[24]⟩,af 30 31])
 (.cond (.t 30)
 (.seq (.aq [af 32 1,DH 33 32,HP 34 33,af 4 34])
 (.ret))
 (.skip)))))))
 (.seq (.aq [af 35 1,DH 36 35,HP 37 36,af 38 37,gX 39 1 38,⟨some 40,.mH (.t 39) (.c (.int .i64 0)),(some (38,false)),[39,38]⟩,DI 41 40 38,hz 42 38 41,af 43 42,en 44 1 43,⟨some 45,.bin (.str .neq) (.t 44) (.c (.str [95])),(some (43,true)),[44,43]⟩,eC 46 43 45,af 47 46,en 48 1 47,⟨some 49,.call 108 [],(some (47,true)),[47]⟩,⟨some 50,.call 107 [(.t 48),(.t 49)],(some (47,true)),[48,49,47]⟩,⟨some 51,.un .not (.t 50),(some (47,true)),[50,47]⟩,eC 52 47 51,af 4 52])
 (.ret)))))
theorem abC:dD 89 53 Tryz.f89 QZ [.t 4]:=⟨Tryz.func89,by kernel_rfl⟩
def PE:aW:=
 .seq (.seq (.aq [af 7 5,af 8 0,bS 9 8,c' 10 9,bt 11 10,ea 12 11,fs 13 7 12])
 (.cond (.t 13)
 (.skip)
 (.exit 0)))
 (.seq (.block 1 (.seq (.aq [af 16 0,bS 17 16,c' 18 17,bt 19 18,af 20 5,qK 21 19 20,dh 22 21,bt 23 22,af 24 1,DD 25 23 24])
 (.cond (.t 25)
 (.seq (.aq [af 26 0,bS 27 26,c' 28 27,bt 29 28,af 30 5,qK 31 29 30,c' 32 31,c' 33 32,bt 34 33,af 4 34])
 (.ret))
 (.skip))))
 (.aq [af 14 5,dW 15 14,af 5 15]))
def PD:aW:=
 .seq (.aq [dK 4])
 (.seq (.seq (.aq [dK 5])
 (.block 0 (.loop PE)))
 (.seq (.aq [af 35 0,bS 36 35,dh 37 36,bt 38 37,ea 39 38,af 6 39])
 (.seq (.aq [af 40 0,af 41 0,bS 42 41,dh 43 42,bt 44 43,af 45 1,Ap 46 45,af 47 6,⟨some 48,.build [(.int .i64 0),(.int .i64 0),(.str []),.bF,.bF,(.int .i64 0)] [(0,4,(.t 46)),(5,1,(.t 47))],none,[46,47]⟩,Og 49 48,⟨some 50,.app 6 (.t 44) (.t 49),none,[44,49]⟩,bS 51 40,dh 52 51,⟨none,.st 1 (.t 52) (.t 50),none,[52,50]⟩])
 (.seq (.aq [af 53 0,af 54 0,bS 55 54,c' 56 55,bt 57 56,af 58 1,af 59 6,⟨some 60,.build [(.int .i64 0),(.int .i64 0),(.str []),.bF] [(1,1,(.t 59))],none,[59]⟩,HH 61 58 60,DB 62 61,xV 63 57 62,bS 64 53,c' 65 64,⟨none,.st 1 (.t 65) (.t 63),none,[65,63]⟩])
 (.seq (.aq [af 66 6,af 4 66])
 (.ret))))))
theorem aau:dD 103 67 Tryz.f103 PD [.t 4]:=⟨Tryz.func103,by kernel_rfl⟩
def PH:aW:=
 .seq (.aq [fr 2])
 (.seq (.aq [af 3 0,HP 4 3,af 5 4,gX 6 0 5,⟨some 7,.call 106 [(.t 6),(.c (.int .u8 65)),(.c (.int .u8 90))],(some (5,false)),[6,5]⟩,hz 8 5 7,af 9 8,gX 10 0 9,⟨some 11,.call 106 [(.t 10),(.c (.int .u8 48)),(.c (.int .u8 57))],(some (9,false)),[10,9]⟩,hz 12 9 11,af 13 12,gX 14 0 13,DI 15 14 13,hz 16 13 15,af 17 16,gX 18 0 17,⟨some 19,.bin (.int .eql) (.t 18) (.c (.int .u8 39)),(some (17,false)),[18,17]⟩,hz 20 17 19,af 2 20])
 (.ret))
theorem aaw:dD 105 21 Tryz.f105 PH [.t 2]:=⟨Tryz.func105,by kernel_rfl⟩
def PI:aW:=
 .seq (.aq [fr 6])
 (.seq (.aq [af 7 0,af 8 1,Ax 9 7 8,af 10 9,en 11 0 10,en 12 2 10,⟨some 13,.bin (.int .leq) (.t 11) (.t 12),(some (10,true)),[11,12,10]⟩,eC 14 10 13,af 6 14])
 (.ret))
theorem aax:dD 106 15 Tryz.f106 PI [.t 6]:=⟨Tryz.func106,by kernel_rfl⟩
def PK:aW:=
 .seq (.seq (.aq [af 6 5,af 7 1,ea 8 7,fs 9 6 8])
 (.cond (.t 9)
 (.skip)
 (.exit 0)))
 (.seq (.block 1 (.seq (.aq [af 12 1,af 13 5,iJ 14 12 13,bt 15 14,af 16 0,⟨some 17,.bin (.str .eql) (.t 15) (.t 16),none,[15,16]⟩])
 (.cond (.t 17)
 (.seq (.aq [rZ 4])
 (.ret))
 (.skip))))
 (.aq [af 10 5,dW 11 10,af 5 11]))
def PJ:aW:=
 .seq (.aq [fr 4])
 (.seq (.seq (.aq [dK 5])
 (.block 0 (.loop PK)))
 (.seq (.aq [fr 4])
 (.ret)))
theorem aay:dD 107 18 Tryz.f107 PJ [.t 4]:=⟨Tryz.func107,by kernel_rfl⟩
def PL:aW:=
 .seq (.aq [gD 0])
 (.seq (.aq [⟨some 1,.iw 20 1 [(.str [])] [(0,1,(.c (.str [97,110,100]))),(1,1,(.c (.str [98,101,103,105,110]))),(2,1,(.c (.str [101,108,115,101]))),(3,1,(.c (.str [101,110,100]))),(4,1,(.c (.str [101,120,99,101,112,116,105,111,110]))),(5,1,(.c (.str [102,97,108,115,101]))),(6,1,(.c (.str [102,117,110]))),(7,1,(.c (.str [105,102]))),(8,1,(.c (.str [105,110]))),(9,1,(.c (.str [108,101,116]))),(10,1,(.c (.str [109,97,116,99,104]))),(11,1,(.c (.str [109,111,100]))),(12,1,(.c (.str [111,102]))),(13,1,(.c (.str [114,97,105,115,101]))),(14,1,(.c (.str [114,101,99]))),(15,1,(.c (.str [116,104,101,110]))),(16,1,(.c (.str [116,114,117,101]))),(17,1,(.c (.str [116,114,121]))),(18,1,(.c (.str [116,121,112,101]))),(19,1,(.c (.str [119,105,116,104])))],none,[]⟩,af 0 1])
 (.ret))
theorem aaz:dD 108 2 Tryz.f108 PL [.t 0]:=⟨Tryz.func108,by kernel_rfl⟩
def El:aW:=
 .seq (.aq [fs 12 11 10])
 (.seq (.cond (.t 12)
 (.skip)
 (.exit 0))
 (.seq (.block 1 (.seq (.aq [iJ 13 9 11,bt 14 13,af 5 14])
 (.seq (.aq [af 15 3,af 16 5,ea 17 16,vh 18 15 17,af 3 18])
 (.seq (.aq [af 19 3,HK 20 19])
 (.cond (.t 20)
 (.aq [⟨some 21,.sS 9 (.c (.str [108,101,110,32,111,117,116,32,111,102,32,114,97,110,103,101])),none,[]⟩,⟨none,.bad,none,[21]⟩])
 (.skip))))))
 (.aq [dW 22 11,af 11 22])))
def Em:aW:=
 .seq (.aq [fs 28 27 26])
 (.seq (.cond (.t 28)
 (.skip)
 (.exit 2))
 (.seq (.block 3 (.seq (.aq [iJ 29 25 27,bt 30 29,af 8 30])
 (.aq [af 31 6,af 32 8,vf 33 31 32,af 6 33])))
 (.aq [dW 34 27,af 27 34])))
def Qp:aW:=
 .seq (.aq [gD 2])
 (.seq (.aq [dK 3])
 (.seq (.seq (.aq [af 9 0,ea 10 9,dK 11])
 (.block 0 (.loop El)))
 (.seq (.aq [af 23 3,⟨some 24,.call 75 [(.c .bF),(.t 23)],none,[23]⟩,af 6 24])
 (.seq (.seq (.aq [af 25 0,ea 26 25,dK 27])
 (.block 2 (.loop Em)))
 (.seq (.aq [af 35 6,af 2 35])
 (.ret))))))
theorem aba:dD 47 36 Tryz.f47 Qp [.t 2]:=⟨Tryz.func47,by kernel_rfl⟩
def QF:aW:=
 .seq (.aq [gD 4])
 (.seq (.seq (.aq [af 5 1,HK 6 5])
 (.cond (.t 6)
 (.aq [⟨some 7,.sS 9 (.c (.str [99,97,110,110,111,116,32,98,101,32,110,101,103,97,116,105,118,101])),none,[]⟩,⟨none,.bad,none,[7]⟩])
 (.skip)))
 (.seq (.seq (.aq [af 8 1,af 9 0,⟨some 10,.tK (.t 9),none,[9]⟩,af 11 0,ea 12 11,⟨some 13,.bin (.int .sub) (.t 10) (.t 12),none,[10,12]⟩,⟨some 14,.bin (.int .sub) (.t 8) (.t 13),none,[8,13]⟩,af 1 14])
 (.seq (.aq [af 15 1,DE 16 15])
 (.cond (.t 16)
 (.aq [af 17 0,af 18 0,⟨some 19,.tK (.t 18),none,[18]⟩,⟨some 20,.fU 4 (.t 17) none (some (.t 19)) none,none,[17,19]⟩,af 21 1,⟨some 22,.x8 4 [(.int .i64 0),(.int .i64 0),(.str []),.bF] (.t 20) (.t 21),none,[20,21]⟩,af 23 0,ea 24 23,⟨some 25,.fU 4 (.t 22) none (some (.t 24)) none,none,[22,24]⟩,af 0 25])
 (.skip))))
 (.seq (.aq [af 26 0,af 4 26])
 (.ret))))
theorem abq:dD 75 27 Tryz.f75 QF [.t 4]:=⟨Tryz.func75,by kernel_rfl⟩
def PG:aW:=
 .block 1 (.seq (.aq [af 24 5,bS 25 24,c' 26 25,bt 27 26,af 7 27])
 (.seq (.block 2 (.seq (.aq [af 37 7,af 38 0,mY 39 38,Ax 40 37 39,af 36 40])
 (.cond (.t 36)
 (.exit 0)
 (.seq (.aq [af 42 0,af 43 7,DG 44 42 43,⟨some 45,.call 124 [(.c (.str [9,10,13,32])),(.t 44)],none,[44]⟩,DF 46 45,af 41 46])
 (.cond (.t 41)
 (.aq [af 47 5,bS 48 47,c' 49 48,bt 50 49,dW 51 50,bS 52 47,c' 53 52,⟨none,.st 1 (.t 53) (.t 51),none,[53,51]⟩])
 (.seq (.aq [af 55 5,⟨some 56,.call 125 [(.t 55),(.c (.str [40,42]))],none,[55]⟩,af 54 56])
 (.cond (.t 54)
 (.aq [af 57 5,⟨some 58,.call 126 [(.t 57)],none,[57]⟩])
 (.seq (.aq [af 28 5,⟨some 29,.call 127 [(.t 28)],none,[28]⟩,Ay 8,⟨none,.st 4 (.t 8) (.t 29),none,[8,29]⟩])
 (.seq (.aq [af 30 7,hQ 31 8,⟨none,.st 1 (.t 31) (.t 30),none,[31,30]⟩])
 (.aq [af 32 6,fB 33 8,⟨some 34,.iw 1 4 [(.int .i64 0),(.int .i64 0),(.int .i64 0),(.str [])] [(0,4,(.t 33))],none,[33]⟩,vf 35 32 34,af 6 35]))))))))))
 (.seq (.aq [af 59 5,bS 60 59,hQ 61 60,bt 62 61,HF 63 62])
 (.cond (.t 63)
 (.seq (.draw [af 64 5,bS 65 64,hQ 66 65,bt 67 66,af 68 7,⟨some 69,.build [(.int .i64 0),(.int .i64 0)] [(0,1,(.t 67)),(1,1,(.t 68))],none,[67,68]⟩,gD 2,⟨none,.st 2 (.t 3) (.t 69),none,[3,69]⟩] [(3,[7])])
 (.ret))
 (.skip)))))
def PF:aW:=
 .seq (.aq [gD 2,⟨some 3,.new [(.int .i64 0),(.int .i64 0)],none,[]⟩])
 (.seq (.seq (.aq [af 9 0,mY 10 9,⟨some 11,.bin (.int .gtr) (.t 10) (.c (.int .i64 65536)),none,[10]⟩])
 (.cond (.t 11)
 (.seq (.aq [⟨some 12,.build [(.int .i64 0),(.int .i64 0)] [(0,1,(.c (.int .i64 3)))],none,[]⟩,gD 2,⟨none,.st 2 (.t 3) (.t 12),none,[3,12]⟩])
 (.ret))
 (.skip)))
 (.seq (.seq (.aq [af 13 0,⟨some 14,.call 123 [(.t 13)],none,[13]⟩,af 4 14])
 (.seq (.aq [af 15 4,af 16 0,mY 17 16,fs 18 15 17])
 (.cond (.t 18)
 (.seq (.aq [af 19 4,⟨some 20,.build [(.int .i64 0),(.int .i64 0)] [(0,1,(.c (.int .i64 250))),(1,1,(.t 19))],none,[19]⟩,gD 2,⟨none,.st 2 (.t 3) (.t 20),none,[3,20]⟩])
 (.ret))
 (.skip))))
 (.seq (.aq [af 21 0,⟨some 22,.build [(.str []),(.int .i64 0),(.int .i64 0)] [(0,1,(.t 21))],none,[21]⟩,jK 23 22,af 5 23])
 (.seq (.aq [gD 6])
 (.seq (.skip)
 (.seq (.block 0 (.loop PG))
 (.seq (.aq [af 70 6,⟨some 71,.build [(.int .i64 0),(.int .i64 0)] [],none,[]⟩,af 2 70,⟨none,.st 2 (.t 3) (.t 71),none,[3,71]⟩])
 (.ret))))))))
theorem aav:dD 104 72 Tryz.f104 PF [.t 2,.sj 3 2]:=⟨Tryz.func104,by kernel_rfl⟩
def PO:aW:=
 .seq (.aq [⟨some 9,.zA (.t 8),none,[8]⟩,lL 10 9])
 (.seq (.cond (.t 10)
 (.skip)
 (.exit 0))
 (.block 1 (.seq (.aq [kP 11 9,⟨some 12,.ext (.t 9) 2,none,[9]⟩,af 3 11,af 4 12])
 (.seq (.aq [af 13 4,⟨some 14,.bin (.int .eql) (.t 13) (.c (.int .i32 65533)),none,[13]⟩])
 (.cond (.t 14)
 (.seq (.aq [af 16 0,af 17 3,HQ 18 16 17,⟨some 19,.call 137 [(.t 18)],none,[18]⟩,af 15 19,lL 20 15,kP 21 15,af 5 20,af 6 21])
 (.seq (.aq [af 22 6,qL 23 22])
 (.cond (.t 23)
 (.seq (.aq [af 24 3,af 2 24])
 (.ret))
 (.skip))))
 (.skip))))))
def PN:aW:=
 .seq (.aq [dK 2])
 (.seq (.seq (.aq [af 7 0,⟨some 8,.zQ (.t 7),none,[7]⟩])
 (.block 0 (.loop PO)))
 (.seq (.aq [af 25 0,mY 26 25,af 2 26])
 (.ret)))
theorem aaB:dD 123 27 Tryz.f123 PN [.t 2]:=⟨Tryz.func123,by kernel_rfl⟩
def PQ:aW:=
 .seq (.aq [dK 4])
 (.seq (.aq [af 5 0,af 6 1,⟨some 7,.call 138 [(.t 5),(.t 6)],none,[5,6]⟩,af 4 7])
 (.ret))
theorem aaC:dD 124 8 Tryz.f124 PQ [.t 4]:=⟨Tryz.func124,by kernel_rfl⟩
def PR:aW:=
 .seq (.aq [fr 4])
 (.seq (.draw [af 5 0,bS 6 5,dh 7 6,bt 8 7,af 9 0,bS 10 9,c' 11 10,bt 12 11,HQ 13 8 12,af 14 1,⟨some 15,.call 139 [(.t 13),(.t 14)],none,[13,14]⟩,af 4 15] [(3,[10]),(7,[10])])
 (.ret))
theorem aaD:dD 125 16 Tryz.f125 PR [.t 4]:=⟨Tryz.func125,by kernel_rfl⟩
def PT:aW:=
 .block 1 (.block 2 (.seq (.draw [af 11 0,bS 12 11,c' 13 12,bt 14 13,af 15 0,bS 16 15,dh 17 16,bt 18 17,mY 19 18,Ax 20 14 19,af 10 20] [])
 (.cond (.t 10)
 (.seq (.aq [af 21 0,bS 22 21,hQ 23 22,⟨none,.st 1 (.t 23) (.c (.int .i64 253)),none,[23]⟩])
 (.ret))
 (.seq (.aq [af 25 0,⟨some 26,.call 125 [(.t 25),(.c (.str [40,42]))],none,[25]⟩,af 24 26])
 (.cond (.t 24)
 (.seq (.aq [af 27 2,dW 28 27,af 2 28])
 (.aq [af 29 0,bS 30 29,c' 31 30,bt 32 31,⟨some 33,.bin (.int .add) (.t 32) (.c (.int .i64 2)),none,[32]⟩,bS 34 29,c' 35 34,⟨none,.st 1 (.t 35) (.t 33),none,[35,33]⟩]))
 (.seq (.aq [af 37 0,⟨some 38,.call 125 [(.t 37),(.c (.str [42,41]))],none,[37]⟩,af 36 38])
 (.cond (.t 36)
 (.seq (.aq [af 39 2,HJ 40 39,af 2 40])
 (.seq (.aq [af 41 0,bS 42 41,c' 43 42,bt 44 43,⟨some 45,.bin (.int .add) (.t 44) (.c (.int .i64 2)),none,[44]⟩,bS 46 41,c' 47 46,⟨none,.st 1 (.t 47) (.t 45),none,[47,45]⟩])
 (.seq (.aq [af 48 2,Aw 49 48])
 (.cond (.t 49)
 (.ret)
 (.skip)))))
 (.aq [af 3 0,bS 4 3,c' 5 4,bt 6 5,dW 7 6,bS 8 3,c' 9 8,⟨none,.st 1 (.t 9) (.t 7),none,[9,7]⟩]))))))))
def PS:aW:=
 .seq (.aq [dK 2])
 (.block 0 (.loop PT))
theorem aaE:dD 126 50 Tryz.f126 PS []:=⟨Tryz.func126,by kernel_rfl⟩
def PV:aW:=
 .seq (.aq [fs 80 79 78])
 (.seq (.cond (.t 80)
 (.skip)
 (.exit 1))
 (.seq (.block 2 (.seq (.aq [iJ 81 77 79,bt 82 81,af 5 82])
 (.seq (.aq [af 83 0,af 84 5,⟨some 85,.call 125 [(.t 83),(.t 84)],none,[83,84]⟩])
 (.cond (.t 85)
 (.seq (.aq [af 86 0,bS 87 86,c' 88 87,bt 89 88,af 90 5,mY 91 90,vh 92 89 91,bS 93 86,c' 94 93,⟨none,.st 1 (.t 94) (.t 92),none,[94,92]⟩])
 (.seq (.aq [af 95 5,Oh 96 95,⟨none,.st 4 (.t 2) (.t 96),none,[2,96]⟩])
 (.ret)))
 (.skip)))))
 (.aq [dW 97 79,af 79 97])))
def PU:aW:=
 .seq (.aq [Ay 2])
 (.seq (.draw [af 6 0,bS 7 6,dh 8 7,bt 9 8,af 10 0,bS 11 10,c' 12 11,bt 13 12,DG 14 9 13,af 3 14] [])
 (.seq (.block 0 (.seq (.aq [af 16 3,⟨some 17,.call 140 [(.t 16)],none,[16]⟩,af 15 17])
 (.cond (.t 15)
 (.seq (.aq [af 18 0,⟨some 19,.call 141 [(.t 18)],none,[18]⟩,⟨none,.st 4 (.t 2) (.t 19),none,[2,19]⟩])
 (.ret))
 (.seq (.aq [af 21 3,⟨some 22,.bin (.int .eql) (.t 21) (.c (.int .u8 34)),none,[21]⟩,af 20 22])
 (.cond (.t 20)
 (.seq (.aq [af 23 0,⟨some 24,.call 142 [(.t 23)],none,[23]⟩,⟨none,.st 4 (.t 2) (.t 24),none,[2,24]⟩])
 (.ret))
 (.seq (.aq [af 26 3,⟨some 27,.call 143 [(.t 26)],none,[26]⟩,af 28 27,gX 29 3 28,DI 30 29 28,hz 31 28 30,af 25 31])
 (.cond (.t 25)
 (.seq (.aq [af 32 0,⟨some 33,.call 144 [(.t 32),(.c (.int .i64 3))],none,[32]⟩,⟨none,.st 4 (.t 2) (.t 33),none,[2,33]⟩])
 (.ret))
 (.seq (.aq [af 35 3,⟨some 36,.call 145 [(.t 35)],none,[35]⟩,af 34 36])
 (.cond (.t 34)
 (.seq (.aq [af 37 0,⟨some 38,.call 144 [(.t 37),(.c (.int .i64 4))],none,[37]⟩,⟨none,.st 4 (.t 2) (.t 38),none,[2,38]⟩])
 (.ret))
 (.seq (.draw [af 40 3,⟨some 41,.bin (.int .eql) (.t 40) (.c (.int .u8 39)),none,[40]⟩,af 42 41,en 43 0 42,rY 44 43 42,r0 45 44 42,gE 46 45 42,⟨some 47,.bin (.int .add) (.t 46) (.c (.int .i64 1)),(some (42,true)),[46,42]⟩,en 48 0 42,rY 49 48 42,tv 50 49 42,gE 51 50 42,⟨some 52,.len .str (.t 51),(some (42,true)),[51,42]⟩,HL 53 47 52 42,eC 54 42 53,af 55 54,en 56 0 55,rY 57 56 55,tv 58 57 55,gE 59 58 55,en 60 0 55,rY 61 60 55,r0 62 61 55,gE 63 62 55,⟨some 64,.bin (.int .add) (.t 63) (.c (.int .i64 1)),(some (55,true)),[63,55]⟩,⟨some 65,.mH (.t 59) (.t 64),(some (55,true)),[59,64,55]⟩,⟨some 66,.call 143 [(.t 65)],(some (55,true)),[65,55]⟩,eC 67 55 66,af 39 67] [(6,[26]),(11,[26]),(19,[26]),(23,[26])])
 (.cond (.t 39)
 (.seq (.aq [af 68 0,bS 69 68,c' 70 69,bt 71 70,dW 72 71,bS 73 68,c' 74 73,⟨none,.st 1 (.t 74) (.t 72),none,[74,72]⟩])
 (.seq (.aq [af 75 0,⟨some 76,.call 144 [(.t 75),(.c (.int .i64 5))],none,[75]⟩,⟨none,.st 4 (.t 2) (.t 76),none,[2,76]⟩])
 (.ret)))
 (.skip))))))))))))
 (.seq (.seq (.aq [⟨some 77,.call 146 [],none,[]⟩,ea 78 77,dK 79])
 (.block 1 (.loop PV)))
 (.seq (.aq [af 98 0,bS 99 98,hQ 100 99,⟨none,.st 1 (.t 100) (.c (.int .i64 251)),none,[100]⟩])
 (.seq (.aq [HR 101,⟨none,.st 4 (.t 2) (.t 101),none,[2,101]⟩])
 (.ret))))))
theorem aaF:dD 127 102 Tryz.f127 PU [.sj 2 4]:=⟨Tryz.func127,by kernel_rfl⟩
def c138:aW:=
 .seq (.aq [dK 4])
 (.seq (.aq [af 5 0,af 6 1,⟨some 7,.call 153 [(.t 5),(.t 6)],none,[5,6]⟩,af 4 7])
 (.ret))
theorem aaH:dD 138 8 Tryz.f138 c138 [.t 4]:=⟨Tryz.func138,by kernel_rfl⟩
def PY:aW:=
 .seq (.aq [fr 4])
 (.seq (.aq [af 5 0,af 6 1,⟨some 7,.call 154 [(.t 5),(.t 6)],none,[5,6]⟩,af 4 7])
 (.ret))
theorem aaI:dD 139 8 Tryz.f139 PY [.t 4]:=⟨Tryz.func139,by kernel_rfl⟩
def P0:aW:=
 .seq (.aq [fr 2])
 (.seq (.aq [af 3 0,⟨some 4,.bin (.int .geq) (.t 3) (.c (.int .u8 48)),none,[3]⟩,af 5 4,en 6 0 5,⟨some 7,.bin (.int .leq) (.t 6) (.c (.int .u8 57)),(some (5,true)),[6,5]⟩,eC 8 5 7,af 2 8])
 (.ret))
theorem aaL:dD 140 9 Tryz.f140 P0 [.t 2]:=⟨Tryz.func140,by kernel_rfl⟩
def P1:aW:=
 .seq (.aq [Ay 2])
 (.seq (.aq [af 7 0,⟨some 8,.call 156 [(.t 7),(.c (.func 140 []))],none,[7]⟩,⟨some 9,.call 155 [(.t 8),(.c (.int .i64 10)),(.c (.int .i64 64))],none,[8]⟩,af 6 9,lL 10 6,kP 11 6,af 3 10,af 4 11])
 (.seq (.seq (.aq [af 12 4,⟨some 13,.bin (.jT true 5) (.t 12) (.c .nilIface),none,[12]⟩,af 14 13,gX 15 3 14,⟨some 16,.bin (.int .gtr) (.t 15) (.c (.int .u64 2147483647)),(some (14,false)),[15,14]⟩,hz 17 14 16])
 (.cond (.t 17)
 (.seq (.aq [af 18 0,bS 19 18,hQ 20 19,⟨none,.st 1 (.t 20) (.c (.int .i64 254)),none,[20]⟩])
 (.seq (.aq [HR 21,⟨none,.st 4 (.t 2) (.t 21),none,[2,21]⟩])
 (.ret)))
 (.skip)))
 (.seq (.aq [af 22 3,⟨some 23,.kz (.int .i64) (.t 22),none,[22]⟩,af 5 23])
 (.seq (.seq (.aq [af 24 5,⟨some 25,.bin (.int .gtr) (.t 24) (.c (.int .i64 1073741823)),none,[24]⟩])
 (.cond (.t 25)
 (.aq [af 26 5,⟨some 27,.bin (.int .sub) (.t 26) (.c (.int .i64 2147483648)),none,[26]⟩,af 5 27])
 (.skip)))
 (.seq (.aq [af 28 5,⟨some 29,.build [(.int .i64 0),(.int .i64 0),(.int .i64 0),(.str [])] [(0,1,(.c (.int .i64 1))),(1,1,(.t 28))],none,[28]⟩,⟨none,.st 4 (.t 2) (.t 29),none,[2,29]⟩])
 (.ret))))))
theorem aaM:dD 141 30 Tryz.f141 P1 [.sj 2 4]:=⟨Tryz.func141,by kernel_rfl⟩
def P3:aW:=
 .seq (.seq (.aq [af 12 0,bS 13 12,hQ 14 13,bt 15 14,Aw 16 15])
 (.cond (.t 16)
 (.skip)
 (.exit 0)))
 (.block 1 (.seq (.seq (.draw [af 17 0,bS 18 17,c' 19 18,bt 20 19,af 21 0,bS 22 21,dh 23 22,bt 24 23,mY 25 24,Ax 26 20 25] [])
 (.cond (.t 26)
 (.seq (.aq [af 27 0,bS 28 27,hQ 29 28,⟨none,.st 1 (.t 29) (.c (.int .i64 252)),none,[29]⟩])
 (.exit 0))
 (.skip)))
 (.seq (.draw [af 30 0,bS 31 30,dh 32 31,bt 33 32,af 34 0,bS 35 34,c' 36 35,bt 37 36,DG 38 33 37,af 4 38] [])
 (.block 2 (.seq (.aq [af 51 4,⟨some 52,.bin (.int .eql) (.t 51) (.c (.int .u8 34)),none,[51]⟩,af 50 52])
 (.cond (.t 50)
 (.seq (.aq [af 53 0,bS 54 53,c' 55 54,bt 56 55,dW 57 56,bS 58 53,c' 59 58,⟨none,.st 1 (.t 59) (.t 57),none,[59,57]⟩])
 (.seq (.seq (.aq [af 60 3,ea 61 60,As 62 61])
 (.cond (.t 62)
 (.aq [af 63 0,bS 64 63,hQ 65 64,⟨none,.st 1 (.t 65) (.c (.int .i64 255)),none,[65]⟩])
 (.skip)))
 (.seq (.aq [af 66 3,⟨some 67,.kz .str (.t 66),none,[66]⟩,⟨some 68,.build [(.int .i64 0),(.int .i64 0),(.int .i64 0),(.str [])] [(0,1,(.c (.int .i64 2))),(3,1,(.t 67))],none,[67]⟩,⟨none,.st 4 (.t 2) (.t 68),none,[2,68]⟩])
 (.ret))))
 (.seq (.aq [af 70 4,⟨some 71,.bin (.int .eql) (.t 70) (.c (.int .u8 92)),none,[70]⟩,af 69 71])
 (.cond (.t 69)
 (.aq [af 72 3,af 73 0,⟨some 74,.call 157 [(.t 73)],none,[73]⟩,⟨some 75,.iw 1 1 [(.int .u8 0)] [(0,1,(.t 74))],none,[74]⟩,Au 76 72 75,af 3 76])
 (.seq (.aq [af 78 4,⟨some 79,.bin (.int .lss) (.t 78) (.c (.int .u8 32)),none,[78]⟩,af 80 79,gX 81 4 80,⟨some 82,.bin (.int .eql) (.t 81) (.c (.int .u8 127)),(some (80,false)),[81,80]⟩,hz 83 80 82,af 77 83])
 (.cond (.t 77)
 (.aq [af 84 0,bS 85 84,hQ 86 85,⟨none,.st 1 (.t 86) (.c (.int .i64 252)),none,[86]⟩])
 (.seq (.aq [af 39 0,bS 40 39,c' 41 40,bt 42 41,dW 43 42,bS 44 39,c' 45 44,⟨none,.st 1 (.t 45) (.t 43),none,[45,43]⟩])
 (.aq [af 46 3,af 47 4,⟨some 48,.iw 1 1 [(.int .u8 0)] [(0,1,(.t 47))],none,[47]⟩,Au 49 46 48,af 3 49]))))))))))))
def P2:aW:=
 .seq (.aq [Ay 2])
 (.seq (.aq [af 5 0,bS 6 5,c' 7 6,bt 8 7,dW 9 8,bS 10 5,c' 11 10,⟨none,.st 1 (.t 11) (.t 9),none,[11,9]⟩])
 (.seq (.aq [gD 3])
 (.seq (.block 0 (.loop P3))
 (.seq (.aq [HR 87,⟨none,.st 4 (.t 2) (.t 87),none,[2,87]⟩])
 (.ret)))))
theorem aaN:dD 142 88 Tryz.f142 P2 [.sj 2 4]:=⟨Tryz.func142,by kernel_rfl⟩
def P4:aW:=
 .seq (.aq [fr 2])
 (.seq (.aq [af 3 0,⟨some 4,.bin (.int .geq) (.t 3) (.c (.int .u8 97)),none,[3]⟩,af 5 4,en 6 0 5,⟨some 7,.bin (.int .leq) (.t 6) (.c (.int .u8 122)),(some (5,true)),[6,5]⟩,eC 8 5 7,af 2 8])
 (.ret))
theorem aaO:dD 143 9 Tryz.f143 P4 [.t 2]:=⟨Tryz.func143,by kernel_rfl⟩
def P5:aW:=
 .seq (.aq [Ay 4])
 (.seq (.aq [af 6 0,⟨some 7,.call 156 [(.t 6),(.c (.func 158 []))],none,[6]⟩,af 5 7])
 (.seq (.block 0 (.seq (.aq [af 9 1,⟨some 10,.bin (.int .eql) (.t 9) (.c (.int .i64 3)),none,[9]⟩,af 11 10,en 12 5 11,⟨some 13,.bin (.str .eql) (.t 12) (.c (.str [95])),(some (11,true)),[12,11]⟩,eC 14 11 13,af 8 14])
 (.cond (.t 8)
 (.seq (.aq [af 15 5,Oh 16 15,⟨none,.st 4 (.t 4) (.t 16),none,[4,16]⟩])
 (.ret))
 (.seq (.aq [af 18 1,⟨some 19,.bin (.int .eql) (.t 18) (.c (.int .i64 3)),none,[18]⟩,af 20 19,en 21 5 20,⟨some 22,.bin (.str .add) (.c (.str [32])) (.t 21),(some (20,true)),[21,20]⟩,⟨some 23,.bin (.str .add) (.t 22) (.c (.str [32])),(some (20,true)),[22,20]⟩,⟨some 24,.call 159 [(.c (.str [32,97,110,100,32,98,101,103,105,110,32,101,108,115,101,32,101,110,100,32,101,120,99,101,112,116,105,111,110,32,102,97,108,115,101,32,102,117,110,32,105,102,32,105,110,32,108,101,116,32,109,97,116,99,104,32,109,111,100,32,111,102,32,114,97,105,115,101,32,114,101,99,32,116,104,101,110,32,116,114,117,101,32,116,114,121,32,116,121,112,101,32,119,105,116,104,32])),(.t 23)],(some (20,true)),[23,20]⟩,eC 25 20 24,af 17 25])
 (.cond (.t 17)
 (.seq (.aq [af 26 5,⟨some 27,.build [(.int .i64 0),(.int .i64 0),(.int .i64 0),(.str [])] [(0,1,(.c (.int .i64 6))),(3,1,(.t 26))],none,[26]⟩,⟨none,.st 4 (.t 4) (.t 27),none,[4,27]⟩])
 (.ret))
 (.seq (.aq [af 29 5,mY 30 29,⟨some 31,.bin (.int .gtr) (.t 30) (.c (.int .i64 64)),none,[30]⟩,af 28 31])
 (.cond (.t 28)
 (.aq [af 32 0,bS 33 32,hQ 34 33,⟨none,.st 1 (.t 34) (.c (.int .i64 255)),none,[34]⟩])
 (.skip))))))))
 (.seq (.aq [af 35 1,af 36 5,⟨some 37,.build [(.int .i64 0),(.int .i64 0),(.int .i64 0),(.str [])] [(0,1,(.t 35)),(3,1,(.t 36))],none,[35,36]⟩,⟨none,.st 4 (.t 4) (.t 37),none,[4,37]⟩])
 (.ret))))
theorem aaP:dD 144 38 Tryz.f144 P5 [.sj 4 4]:=⟨Tryz.func144,by kernel_rfl⟩
def P6:aW:=
 .seq (.aq [fr 2])
 (.seq (.aq [af 3 0,⟨some 4,.bin (.int .geq) (.t 3) (.c (.int .u8 65)),none,[3]⟩,af 5 4,en 6 0 5,⟨some 7,.bin (.int .leq) (.t 6) (.c (.int .u8 90)),(some (5,true)),[6,5]⟩,eC 8 5 7,af 2 8])
 (.ret))
theorem aaQ:dD 145 9 Tryz.f145 P6 [.t 2]:=⟨Tryz.func145,by kernel_rfl⟩
def P7:aW:=
 .seq (.aq [gD 0])
 (.seq (.aq [⟨some 1,.iw 17 1 [(.str [])] [(0,1,(.c (.str [59,59]))),(1,1,(.c (.str [58,61]))),(2,1,(.c (.str [45,62]))),(3,1,(.c (.str [60,61]))),(4,1,(.c (.str [59]))),(5,1,(.c (.str [40]))),(6,1,(.c (.str [41]))),(7,1,(.c (.str [44]))),(8,1,(.c (.str [61]))),(9,1,(.c (.str [60]))),(10,1,(.c (.str [43]))),(11,1,(.c (.str [45]))),(12,1,(.c (.str [42]))),(13,1,(.c (.str [47]))),(14,1,(.c (.str [124]))),(15,1,(.c (.str [33]))),(16,1,(.c (.str [95])))],none,[]⟩,af 0 1])
 (.ret))
theorem aaR:dD 146 2 Tryz.f146 P7 [.t 0]:=⟨Tryz.func146,by kernel_rfl⟩
def P':aW:=
 .seq (.aq [fr 4])
 (.seq (.aq [af 5 0,mY 6 5,af 7 1,mY 8 7,Ax 9 6 8,af 10 9,en 11 0 10,en 12 1 10,⟨some 13,.len .str (.t 12),(some (10,true)),[12,10]⟩,⟨some 14,.rO (.t 11) none (some (.t 13)) none,(some (10,true)),[11,13,10]⟩,en 15 1 10,HI 16 14 15 10,eC 17 10 16,af 4 17])
 (.ret))
theorem aaT:dD 154 18 Tryz.f154 P' [.t 4]:=⟨Tryz.func154,by kernel_rfl⟩
def Qa:aW:=
 .seq (.seq (.draw [af 10 0,bS 11 10,c' 12 11,bt 13 12,af 14 0,bS 15 14,dh 16 15,bt 17 16,mY 18 17,fs 19 13 18,af 20 19,en 21 1 20,en 22 0 20,rY 23 22 20,tv 24 23 20,gE 25 24 20,en 26 0 20,rY 27 26 20,r0 28 27 20,gE 29 28 20,⟨some 30,.mH (.t 25) (.t 29),(some (20,true)),[25,29,20]⟩,⟨some 31,.o2 (.t 21) [(.t 30)],(some (20,true)),[21,30,20]⟩,eC 32 20 31] [(3,[21]),(7,[21]),(15,[21]),(19,[21])])
 (.cond (.t 32)
 (.skip)
 (.exit 0)))
 (.block 1 (.aq [af 33 0,bS 34 33,c' 35 34,bt 36 35,dW 37 36,bS 38 33,c' 39 38,⟨none,.st 1 (.t 39) (.t 37),none,[39,37]⟩]))
def P_:aW:=
 .seq (.aq [⟨some 4,.b1 (.c (.str [])),none,[]⟩])
 (.seq (.aq [af 6 0,bS 7 6,c' 8 7,bt 9 8,af 5 9])
 (.seq (.block 0 (.loop Qa))
 (.seq (.draw [af 40 0,bS 41 40,dh 42 41,bt 43 42,af 44 5,af 45 0,bS 46 45,c' 47 46,bt 48 47,⟨some 49,.rO (.t 43) (some (.t 44)) (some (.t 48)) none,none,[43,44,48]⟩,af 4 49] [])
 (.ret))))
theorem aaU:dD 156 50 Tryz.f156 P_ [.t 4]:=⟨Tryz.func156,by kernel_rfl⟩
def Qb:aW:=
 .seq (.aq [⟨some 2,.b1 (.c (.int .u8 0)),none,[]⟩])
 (.seq (.aq [af 7 0,bS 8 7,c' 9 8,bt 10 9,dW 11 10,bS 12 7,c' 13 12,⟨none,.st 1 (.t 13) (.t 11),none,[13,11]⟩])
 (.seq (.draw [af 14 0,bS 15 14,dh 16 15,bt 17 16,af 18 0,bS 19 18,c' 20 19,bt 21 20,HQ 22 17 21,af 3 22] [])
 (.seq (.seq (.aq [af 23 3,⟨some 24,.bin (.str .neq) (.t 23) (.c (.str [])),none,[23]⟩])
 (.cond (.t 24)
 (.seq (.aq [af 25 3,DH 26 25,⟨some 27,.call 124 [(.c (.str [110,116,34,92])),(.t 26)],none,[26]⟩,af 4 27])
 (.seq (.aq [af 28 4,DF 29 28])
 (.cond (.t 29)
 (.seq (.aq [af 30 0,bS 31 30,c' 32 31,bt 33 32,dW 34 33,bS 35 30,c' 36 35,⟨none,.st 1 (.t 36) (.t 34),none,[36,34]⟩])
 (.seq (.aq [af 37 4,⟨some 38,.mH (.c (.str [10,9,34,92])) (.t 37),none,[37]⟩,af 2 38])
 (.ret)))
 (.skip))))
 (.skip)))
 (.seq (.seq (.aq [af 39 3,mY 40 39,⟨some 41,.bin (.int .geq) (.t 40) (.c (.int .i64 3)),none,[40]⟩,af 42 41,en 43 3 42,⟨some 44,.mH (.t 43) (.c (.int .i64 0)),(some (42,true)),[43,42]⟩,⟨some 45,.call 140 [(.t 44)],(some (42,true)),[44,42]⟩,eC 46 42 45,af 47 46,en 48 3 47,⟨some 49,.mH (.t 48) (.c (.int .i64 1)),(some (47,true)),[48,47]⟩,⟨some 50,.call 140 [(.t 49)],(some (47,true)),[49,47]⟩,eC 51 47 50,af 52 51,en 53 3 52,⟨some 54,.mH (.t 53) (.c (.int .i64 2)),(some (52,true)),[53,52]⟩,⟨some 55,.call 140 [(.t 54)],(some (52,true)),[54,52]⟩,eC 56 52 55])
 (.cond (.t 56)
 (.seq (.aq [af 58 3,⟨some 59,.rO (.t 58) none (some (.c (.int .i64 3))) none,none,[58]⟩,⟨some 60,.call 166 [(.t 59)],none,[59]⟩,af 57 60,lL 61 57,kP 62 57,af 5 61,af 6 62])
 (.seq (.aq [af 63 5,⟨some 64,.bin (.int .lss) (.t 63) (.c (.int .i64 256)),none,[63]⟩])
 (.cond (.t 64)
 (.seq (.aq [af 65 0,bS 66 65,c' 67 66,bt 68 67,⟨some 69,.bin (.int .add) (.t 68) (.c (.int .i64 3)),none,[68]⟩,bS 70 65,c' 71 70,⟨none,.st 1 (.t 71) (.t 69),none,[71,69]⟩])
 (.seq (.aq [af 72 5,⟨some 73,.kz (.int .u8) (.t 72),none,[72]⟩,af 2 73])
 (.ret)))
 (.skip))))
 (.skip)))
 (.seq (.aq [af 74 0,bS 75 74,hQ 76 75,⟨none,.st 1 (.t 76) (.c (.int .i64 252)),none,[76]⟩])
 (.seq (.aq [⟨some 2,.b1 (.c (.int .u8 0)),none,[]⟩])
 (.ret)))))))
theorem aaV:dD 157 77 Tryz.f157 Qb [.t 2]:=⟨Tryz.func157,by kernel_rfl⟩
def Qc:aW:=
 .seq (.aq [fr 2])
 (.seq (.aq [af 3 0,⟨some 4,.call 140 [(.t 3)],none,[3]⟩,af 5 4,gX 6 0 5,⟨some 7,.call 143 [(.t 6)],(some (5,false)),[6,5]⟩,hz 8 5 7,af 9 8,gX 10 0 9,⟨some 11,.call 145 [(.t 10)],(some (9,false)),[10,9]⟩,hz 12 9 11,af 13 12,gX 14 0 13,DI 15 14 13,hz 16 13 15,af 17 16,gX 18 0 17,⟨some 19,.bin (.int .eql) (.t 18) (.c (.int .u8 39)),(some (17,false)),[18,17]⟩,hz 20 17 19,af 2 20])
 (.ret))
theorem aaW:dD 158 21 Tryz.f158 Qc [.t 2]:=⟨Tryz.func158,by kernel_rfl⟩
theorem pB {f:FuncId} {args:List V} {h:ai} {v:V} (c:db Tryz.prog f args h fun x ab=>x=v/\ab=h):gv Tryz.prog f args h v h:=by obtain ⟨x,ab,q,rfl,rfl⟩:=c;exact q
def nf (c:Int):Bool:=decide (48<=c)&&decide (c<=57)
def hN (c:Int):Bool:=decide (97<=c)&&decide (c<=122)
def nj (c:Int):Bool:=decide (65<=c)&&decide (c<=90)
def uA (c:Int):Bool:=nf c||hN c||nj c||decide (c=95)||decide (c=39)
def nR (c a b:Int):Bool:=decide (a<=c)&&decide (c<=b)
theorem yi (c:Int) (h:ai):gv Tryz.prog 140 [.int .u8 c] h (.bool (nf c)) h:=by refine pB (aaL.z rfl (dB ?_));unfold P0;simp +contextual only [↓al,aE,simprocAttr];rfl
theorem G2 (c:Int) (h:ai):gv Tryz.prog 143 [.int .u8 c] h (.bool (hN c)) h:=by refine pB (aaO.z rfl (dB ?_));unfold P4;simp +contextual only [↓al,aE,simprocAttr];rfl
theorem Sl (c:Int) (h:ai):gv Tryz.prog 145 [.int .u8 c] h (.bool (nj c)) h:=by refine pB (aaQ.z rfl (dB ?_));unfold P6;simp +contextual only [↓al,aE,simprocAttr];rfl
theorem z_ (c a b:Int) (h:ai):gv Tryz.prog 106 [.int .u8 c,.int .u8 a,.int .u8 b] h (.bool (nR c a b)) h:=by refine pB (aax.z rfl (dB ?_));unfold PI;simp +contextual only [↓al,aE,simprocAttr];rfl
theorem aeB (s p:List UInt8) (h:ai):gv Tryz.prog 154 [.str s,.str p] h (.bool (p.isPrefixOf s)) h:=by
 refine pB (aaT.z rfl (dB ?_));unfold P';have aX:(0<=(p.length:Int))=True:=eq_true (by omega);by_cases ay:p.length<=s.length
 . have aa:((p.length:Int)<=(s.length:Int))=True:=eq_true (by omega);simp +contextual only [aX,aa,Int.toNat_natCast,↓al,aE,simprocAttr];rw [Bool.eq_iff_iff,decide_eq_true_eq,List.isPrefixOf_iff_prefix,List.prefix_iff_eq_take];exact ⟨fun e=>e.symm,fun e=>e.symm⟩
 . have aa:((p.length:Int)<=(s.length:Int))=False:=eq_false (by omega);simp +contextual only [aX,aa,Int.toNat_natCast,↓al,aE,simprocAttr];rw [eq_comm,<-Bool.not_eq_true,List.isPrefixOf_iff_prefix];exact fun e=>ay e.length_le
theorem aeA (s p:List UInt8) (h:ai):gv Tryz.prog 139 [.str s,.str p] h (.bool (p.isPrefixOf s)) h:=by refine pB (aaI.z rfl (dB ?_));unfold PY;simp +contextual only [↓al,aE,simprocAttr];refine gR (aeB s p h) ?_;simp +contextual only [↓al,aE,simprocAttr]
theorem aj0 (c:Int) (h:ai):gv Tryz.prog 158 [.int .u8 c] h (.bool (uA c)) h:=by refine pB (aaW.z rfl (dB ?_));unfold Qc;simp +contextual only [↓al,aE,simprocAttr];refine gR (yi c h) ?_;simp +contextual only [↓al,aE,simprocAttr];refine ET (.bool (hN c)) (fun aD=>by simp only [aD,↓al,aE,simprocAttr];exact G2 _ _) ?_;simp +contextual only [↓al,aE,simprocAttr];refine ET (.bool (nj c)) (fun aD=>by simp only [aD,↓al,aE,simprocAttr];exact Sl _ _) ?_;simp +contextual only [↓al,aE,simprocAttr];rfl
theorem YB (c:Int) (h:ai):gv Tryz.prog 105 [.int .u8 c] h (.bool (nR c 97 122||nR c 65 90||nR c 48 57||decide (c=95)||decide (c=39))) h:=by refine pB (aaw.z rfl (dB ?_));unfold PH;simp +contextual only [↓al,aE,simprocAttr];refine gR (z_ c _ _ h) ?_;simp +contextual only [↓al,aE,simprocAttr];refine ET (.bool (nR c 65 90)) (fun aD=>by simp only [aD,↓al,aE,simprocAttr];exact z_ _ _ _ _) ?_;simp +contextual only [↓al,aE,simprocAttr];refine ET (.bool (nR c 48 57)) (fun aD=>by simp only [aD,↓al,aE,simprocAttr];exact z_ _ _ _ _) ?_;simp +contextual only [↓al,aE,simprocAttr]
theorem JW (s p:List UInt8) (at':Int) (rest:List V) (b:aQ) (cE:Nat) (st:Bool) (h:ai) (ae:h.get b=.bC (.str s::.int .i64 at'::rest) cE st) (aX:0<=at') (aa:at'<=s.length):
 gv Tryz.prog 125 [.ptr b 0,.str p] h (.bool (p.isPrefixOf (s.drop at'.toNat))) h:=by
 refine pB (aaD.z rfl (dB ?_));unfold PR;have f0:(0<=at')=True:=eq_true aX;have f1:(at'<=(s.length:Int))=True:=eq_true aa;simp +contextual only [ae,f0,f1,↓al,aE,simprocAttr];refine gR (aeA _ p h) ?_;simp +contextual only [ae,f0,f1,↓al,aE,simprocAttr]
def iW:List UInt8->Int->Option Nat
 | [],_=>none
 | [_],_=>none
 | x::y::r,d=>if x=40/\y=42 then (iW r (d+1)).map (· +2) else if x=42/\y=41 then (if d-1=0 then some 2 else (iW r (d-1)).map (· +2)) else (iW (y::r) d).map (· +1)
theorem akT (r:List UInt8) (d:Int) (h:r≠[]):iW r d=if ([40,42]:List UInt8).isPrefixOf r=true then (iW (r.drop 2) (d+1)).map (· +2) else
 if ([42,41]:List UInt8).isPrefixOf r=true then (if d-1=0 then some 2 else (iW (r.drop 2) (d-1)).map (· +2)) else (iW (r.drop 1) d).map (· +1):=by
 match r,h with
 | [x],_=>simp [iW,List.isPrefixOf]
 | x::y::r,_=>
   have aP:(([40,42]:List UInt8).isPrefixOf (x::y::r)=true)=(x=40/\y=42):=by simp only [List.isPrefixOf,Bool.and_true,Bool.and_eq_true,beq_iff_eq];exact propext ⟨fun q=>⟨q.1.symm,q.2.symm⟩,fun q=>⟨q.1.symm,q.2.symm⟩⟩
   have a':(([42,41]:List UInt8).isPrefixOf (x::y::r)=true)=(x=42/\y=41):=by simp only [List.isPrefixOf,Bool.and_true,Bool.and_eq_true,beq_iff_eq];exact propext ⟨fun q=>⟨q.1.symm,q.2.symm⟩,fun q=>⟨q.1.symm,q.2.symm⟩⟩
   rw [iW];simp only [aP,a',List.drop_succ_cons,List.drop_zero]
theorem VM {a b:UInt8} {r:List UInt8} (h:([a,b]:List UInt8).isPrefixOf r=true):2<=r.length:=by rw [List.isPrefixOf_iff_prefix] at h;simpa using h.length_le
def fy (s:List UInt8) (at' e:Int):cf:=.bC [.str s,.int .i64 at',.int .i64 e] 0 false
theorem akU (s:List UInt8) (a0:Nat) (c0:Int) (b:aQ) (h:ai) (ae:h.get b=fy s a0 c0) (aX:a0<=s.length) (aR:s.length<=100000) (g_:Old h b):
 db Tryz.prog 126 [.ptr b 0] h fun x ab=>x=.tuple []/\Mod (fun x=>x=b) h ab/\(match iW (s.drop a0) 0 with
  | some n=>ab.get b=fy s ((a0+n:Nat):Int) c0/\a0+n<=s.length
  | none=>ab.get b=fy s (s.length:Int) 253):=by
 refine aaE.z rfl (dB ?_);unfold PS;unfold fy at ae ⊢;simp +contextual only [ae,↓al,aE,simprocAttr];refine eY (fun r ab=>∃(a:Nat) (d:Int),a0<=a/\a<=s.length/\r 0=.ptr b 0/\r 2=.int .i64 d/\ab.get b=.bC [.str s,.int .i64 a,.int .i64 c0] 0 false/\Mod (fun x=>x=b) h ab/\-(a:Int)<=d/\d<=a/\
  iW (s.drop a0) 0=(iW (s.drop a) d).map (· + (a-a0))) (fun r ab=>s.length - ((hd (ab.get b) 1).getD .bad).toN) ?_ ?_
 . refine ⟨a0,0,Nat.le_refl _,aX,?_⟩;simp only [↓al,aE,simprocAttr];refine ⟨ae,Mod.refl _ _,by omega,by omega,?_⟩;rw [Nat.sub_self];cases iW (s.drop a0) 0<;>rfl
 . rintro r ab ⟨a,d,iB,bA,bq,cw,aB,hm,d0,d1,bK⟩;unfold PT;by_cases gH:(s.length:Int)<=(a:Int)
   . have a1:a=s.length:=by omega
     have aV:iW (s.drop a) d=none:=by rw [a1,List.drop_length];rfl
     rw [aV] at bK;simp +contextual only [bq,cw,aB,gH,↓al,aE,simprocAttr];rw [bK];refine ⟨hm.set (fun _=>rfl) _,?_⟩;simp only [a1,Option.map_none,dy,if_true]
   . have cl:s.drop a≠[]:=by
      intro q;rw [List.drop_eq_nil_iff] at q;omega
     have BM:∀p,gv Tryz.prog 125 [.ptr b 0,.str p] ab (.bool (p.isPrefixOf (s.drop a))) ab:=fun p=>by have:=JW s p (a:Int) [.int .i64 c0] b 0 false ab aB (by omega) (by omega);simpa using this
     have ig:=akT (s.drop a) d cl;simp +contextual only [bq,cw,aB,gH,↓al,aE,simprocAttr];refine gR (BM _) ?_;cases je:([40,42]:List UInt8).isPrefixOf (s.drop a) with
     | true=>
       have ad:=VM je;rw [List.length_drop] at ad;rw [je,if_pos rfl] at ig;have b2:IntKind.i64.wrap (d+1)=d+1:=wrap_i64 (by omega) (by omega);have b0:IntKind.i64.wrap ((a:Int)+2)=((a+2:Nat):Int):=by rw [wrap_i64 (by omega) (by omega)];rfl
       simp +contextual only [bq,cw,aB,b2,b0,↓al,aE,simprocAttr];refine ⟨⟨a+2,d+1,by omega,by omega,rfl,rfl,hm.set (fun _=>rfl) _,by omega,by omega,?_⟩,by omega⟩;rw [bK,ig,List.drop_drop,Option.map_map];congr 1;funext q;simp only [Function.comp];omega
     | false=>
       rw [je,if_neg (by decide)] at ig;simp +contextual only [bq,cw,aB,↓al,aE,simprocAttr];refine gR (BM _) ?_;cases h6:([42,41]:List UInt8).isPrefixOf (s.drop a) with
       | true=>
         have ad:=VM h6;rw [List.length_drop] at ad;rw [h6,if_pos rfl] at ig;have b2:IntKind.i64.wrap (d-1)=d-1:=wrap_i64 (by omega) (by omega);have b0:IntKind.i64.wrap ((a:Int)+2)=((a+2:Nat):Int):=by rw [wrap_i64 (by omega) (by omega)];rfl
         by_cases bc:d-1=0
         . rw [if_pos bc] at ig;obtain rfl:d=1:=by omega
           have az:IntKind.i64.wrap 0=0:=rfl;simp +contextual only [bq,cw,aB,az,b0,↓al,aE,simprocAttr];rw [bK,ig];refine ⟨hm.set (fun _=>rfl) _,?_⟩;simp only [Option.map_some,dy,if_true];refine ⟨?_,by omega⟩;rw [show a0 + (2 + (a-a0))=a+2 from by omega]
         . rw [if_neg bc] at ig;simp +contextual only [bq,cw,aB,b2,b0,bc,↓al,aE,simprocAttr];refine ⟨⟨a+2,d-1,by omega,by omega,rfl,rfl,hm.set (fun _=>rfl) _,by omega,by omega,?_⟩,by omega⟩;rw [bK,ig,List.drop_drop,Option.map_map];congr 1;funext q;simp only [Function.comp];omega
       | false=>
         rw [h6,if_neg (by decide)] at ig;have b0:IntKind.i64.wrap ((a:Int)+1)=((a+1:Nat):Int):=by rw [wrap_i64 (by omega) (by omega)];rfl
         simp +contextual only [bq,cw,aB,b0,↓al,aE,simprocAttr];refine ⟨⟨a+1,d,by omega,by omega,rfl,rfl,hm.set (fun _=>rfl) _,by omega,by omega,?_⟩,by omega⟩;rw [bK,ig,List.drop_drop,Option.map_map];congr 1;funext q;simp only [Function.comp];omega
theorem drop_cons {s:List UInt8} {a:Nat} (h:a<s.length):s.drop a=s[a]::s.drop (a+1):=List.drop_eq_getElem_cons h
theorem Xp (p:UInt8->Bool):∀l:List UInt8,(l.takeWhile p).length<=l.length
 | []=>by simp
 | x::l=>by
   simp only [List.takeWhile_cons]
   split
   . simpa using Xp p l
   . simp
theorem Wx (s:List UInt8) (a0:Nat) (c0:Int) (b:aQ) (g:FuncId) (p:Int->Bool) (h:ai) (ae:h.get b=fy s a0 c0) (aX:a0<=s.length) (aR:s.length<=100000) (aZ:(g=4294967296)=False)
 (ag:∀c h,gv Tryz.prog g [.int .u8 c] h (.bool (p c)) h):
 db Tryz.prog 156 [.ptr b 0,.func g []] h fun x ab=>x=.str ((s.drop a0).takeWhile fun c=>p c.toNat)/\Mod (fun x=>x=b) h ab/\ab.get b=fy s ((a0 + ((s.drop a0).takeWhile fun c=>p c.toNat).length:Nat):Int) c0:=by
 refine aaU.z rfl (dB ?_);unfold P_;unfold fy at ae ⊢;simp +contextual only [ae,↓al,aE,simprocAttr];refine eY (fun r ab=>∃(a:Nat),a0<=a/\a<=s.length/\r 0=.ptr b 0/\r 1=.func g []/\r 5=.int .i64 a0/\ab.get b=.bC [.str s,.int .i64 a,.int .i64 c0] 0 false/\Mod (fun x=>x=b) h ab/\
  ((s.drop a0).takeWhile fun c=>p c.toNat)=(s.drop a0).take (a-a0)++((s.drop a).takeWhile fun c=>p c.toNat)) (fun r ab=>s.length - ((hd (ab.get b) 1).getD .bad).toN) ?_ ?_
 . refine ⟨a0,Nat.le_refl _,aX,?_⟩;simp only [↓al,aE,simprocAttr];refine ⟨ae,Mod.refl _ _,?_⟩;rw [Nat.sub_self];rfl
 . rintro r ab ⟨a,iB,bA,bq,bw,dv,aB,hm,bK⟩;unfold Qa;have fin:((s.drop a).takeWhile fun c=>p c.toNat)=[]->V.str (((s.drop a0).take (a-a0)))=V.str ((s.drop a0).takeWhile fun c=>p c.toNat)/\Mod (fun x=>x=b) h ab/\cf.bC [V.str s,V.int .i64 a,V.int .i64 c0] 0 false=cf.bC [V.str s,V.int .i64 ((a0 + ((s.drop a0).takeWhile fun c=>p c.toNat).length:Nat):Int),V.int .i64 c0] 0 false:=by
    intro q;rw [q,List.append_nil] at bK;rw [bK,List.length_take,List.length_drop];refine ⟨rfl,hm,?_⟩;rw [show a0+min (a-a0) (s.length-a0)=a from by omega]
   have f0:(0<=(a0:Int))=True:=eq_true (by omega);have f1:((a0:Int)<=(a:Int))=True:=eq_true (by omega);have f2:((a:Int)<=(s.length:Int))=True:=eq_true (by omega);have f3:(0<=(a:Int))=True:=eq_true (by omega);by_cases gH:(a:Int) < (s.length:Int)
   . have aO:a<s.length:=by omega
     rw [drop_cons aO,List.takeWhile_cons] at bK fin;simp +contextual only [aZ,if_false,bq,bw,dv,aB,gH,f0,f1,f2,f3,List.getElem?_eq_getElem aO,Int.toNat_natCast,↓al,aE,simprocAttr];refine gR (ag _ _) ?_;cases qd:p ((s[a]).toNat:Int) with
     | true=>
       rw [qd] at bK;have b0:IntKind.i64.wrap ((a:Int)+1)=((a+1:Nat):Int):=by rw [wrap_i64 (by omega) (by omega)];rfl
       simp +contextual only [qd,bq,bw,dv,aB,gH,f0,f1,f2,f3,b0,List.getElem?_eq_getElem aO,Int.toNat_natCast,↓al,aE,simprocAttr];refine ⟨⟨a+1,by omega,by omega,rfl,hm.set (fun _=>rfl) _,?_⟩,by omega⟩;rw [bK,if_pos rfl];have Ku:a-a0 < (s.drop a0).length:=by rw [List.length_drop];omega
       rw [show a+1-a0=a-a0+1 from by omega,<-List.take_append_getElem Ku,List.append_assoc];congr 1;rw [List.getElem_drop];simp only [show a0 + (a-a0)=a from by omega];rfl
     | false=>
       rw [qd] at fin;simp +contextual only [qd,bq,bw,dv,aB,gH,f0,f1,f2,f3,List.getElem?_eq_getElem aO,Int.toNat_natCast,↓al,aE,simprocAttr];exact fin rfl
   . have a1:a=s.length:=by omega
     simp +contextual only [aZ,if_false,bq,bw,dv,aB,gH,f0,f1,f2,f3,Int.toNat_natCast,↓al,aE,simprocAttr];refine fin ?_;rw [a1,List.drop_length];rfl
end
end Go.Proofs.YthemdhlheglhoaaGreatDoor
