/- The chapter's functions, walked by the abstract machine: plain lemmas, no condition. Printed by a program from longer texts: names made short. -/
import Derived.Test.YthemdhlheglhoaaGreatDoorM7
import Derived.Test.YthemdhlheglhoaaGreatDoorM4
import Derived.Test.YthemdhlheglhoaaGreatDoorM5
import Derived.WalkSmall
import Derived.Test.YthemdhlheglhoaaGreatDoorM6
import Derived.Shelf.Strings.Search3
import Derived.Shelf.Strings.OnBuilder
import Derived.Shelf.SlIterI.Nil
import Derived.Shelf.SortM.Plain
import Derived.Shelf.SortM.SortNone
import Derived.MakeChecks
import Derived.Shelf.Vars
import Derived.Lay
import Derived.LaidLaws
import Derived.Lib.LaidTab
import Derived.Lib.LaidU8T
import Derived.Test.YthemdhlheglhoaaGreatDoorRows
set_option linter.unusedSectionVars false
set_option linter.unusedSimpArgs false
set_option linter.unusedVariables false
namespace Go.Proofs.YthemdhlheglhoaaGreatDoor
open Go aX Go.RowKit
theorem yF {w:World} {p:Addr} {v:Value} (h:w.cell? p=some v):p.block<w.heap.size:=by
 unfold World.cell? at h
 by_cases q:p.block<w.heap.size
 · exact q
 · rw [Array.getElem?_eq_none (by omega)] at h
   cases h
def vk (w:World) (g:Nat):Prop:=∃a6,w.cell? ⟨g,0,none⟩=some a6∧(a6=.nilIface∨∃akf Q7,a6=.iface akf Q7)
theorem vk.fz {w ao:World} {g:Nat} (h:vk w g) (ag:Below w.heap.size w ao):vk ao g:=by
 obtain ⟨a6,ab,ae⟩:=h
 exact ⟨a6,by rw [ag.cell (yF ab)];exact ab,ae⟩
structure Ev (w:World):Prop where
 S9:Lib.Utf8Tabs 2 3 w
 maxLen:∃m,w.cell? ⟨0,0,none⟩=some (.int .i64 m)
 Nx:vk w 7
 Jv:Lib.TabIs Tryz.prog w "internal/strconv.uint64pow10" .u64 Lib.pow10Tab
noncomputable instance lay:Lay where
 ok w:=Ev w
 fz:=by
  intro w ao h ag
  refine ⟨?_,?_,h.Nx.fz ag,?_⟩
  · obtain ⟨ab,ae⟩:=h.S9
    refine ⟨fun c aI=>?_,fun i aC=>?_⟩
    · rw [ag.cell (yF (ab c aI))]
      exact ab c aI
    · obtain ⟨an,az⟩:=ae i aC
      rw [ag.cell (yF an),ag.cell (yF az)]
      exact ⟨an,az⟩
  · obtain ⟨m,q⟩:=h.maxLen
    exact ⟨m,by rw [ag.cell (yF q)];exact q⟩
  · have aH:Tryz.prog.globalNamed "internal/strconv.uint64pow10"=some 1:=by kernel_rfl
    have ai:1<w.heap.size:=by
     have q:=h.Jv
     unfold Lib.TabIs World.var? at q
     rw [aH] at q
     by_cases aL:1<w.heap.size
     · exact aL
     · simp only [Option.bind_some] at q
       rw [Array.getElem?_eq_none (by omega)] at q
       cases q
    exact var?_below ag aH ai h.Jv
section
open Go.Shelf
def Tryz.agr:Go.Shelf.Ren:=⟨fun | 144=>159 | 143=>167 | 219=>177 | 217=>138 | 225=>181 | 224=>182 | 267=>183 | 266=>153 | 314=>184 | n=>n,fun | 9=>9 | 4=>4 | 3=>3 | 5=>5 | 46=>141 | 146=>221 | 51=>164 | n=>n,fun | 1=>0 | n=>n⟩
theorem Tryz.agq:Go.Proofs.Lays.n144 Tryz.prog Tryz.agr:={
 mixed:=by kernel_rfl,
 f143:=Tryz.func167.trans (congrArg some (by kernel_rfl)),
 f144:=Tryz.func159.trans (congrArg some (by kernel_rfl)),
 f217:=Tryz.func138.trans (congrArg some (by kernel_rfl)),
 f219:=Tryz.func177.trans (congrArg some (by kernel_rfl)),
 f224:=Tryz.func182.trans (congrArg some (by kernel_rfl)),
 f225:=Tryz.func181.trans (congrArg some (by kernel_rfl)),
 f266:=Tryz.func153.trans (congrArg some (by kernel_rfl)),
 f267:=Tryz.func183.trans (congrArg some (by kernel_rfl)),
 f314:=Tryz.func184.trans (congrArg some (by kernel_rfl)),
 t3:=Tryz.underlying3,
 a3:=Tryz.isAgg3,
 z3:=Tryz.sizeOf3,
 v3:=Tryz.zeroValue3,
 t4:=Tryz.underlying4,
 a4:=Tryz.isAgg4,
 z4:=Tryz.sizeOf4,
 v4:=Tryz.zeroValue4,
 t5:=Tryz.underlying5,
 a5:=Tryz.isAgg5,
 z5:=Tryz.sizeOf5,
 v5:=Tryz.zeroValue5,
 t9:=Tryz.underlying9,
 a9:=Tryz.isAgg9,
 z9:=Tryz.sizeOf9,
 v9:=Tryz.zeroValue9,
 t46:=Tryz.underlying141,
 a46:=Tryz.isAgg141,
 z46:=Tryz.sizeOf141,
 v46:=Tryz.zeroValue141,
 t51:=Tryz.underlying164,
 a51:=Tryz.isAgg164,
 z51:=Tryz.sizeOf164,
 v51:=Tryz.zeroValue164,
 t146:=Tryz.underlying221,
 a146:=Tryz.isAgg221,
 z146:=Tryz.sizeOf221,
 v146:=Tryz.zeroValue221,
 g1:=by kernel_rfl}
def Tryz.PY:Go.Shelf.Ren:=⟨fun | 156=>72 | 165=>95 | 166=>96 | 169=>97 | 240=>110 | 241=>111 | 276=>129 | 277=>130 | n=>n,fun | 31=>98 | 9=>9 | 3=>3 | 4=>4 | 0=>0 | 20=>20 | 72=>130 | 76=>134 | 70=>127 | 37=>128 | 75=>133 | 127=>155 | 164=>174 | 5=>5 | 80=>136 | n=>n,fun | n=>n⟩
theorem Tryz.PX:Go.Proofs.Lays.n156 Tryz.prog Tryz.PY:={
 mixed:=by kernel_rfl,
 f156:=Tryz.func72.trans (congrArg some (by kernel_rfl)),
 f165:=Tryz.func95.trans (congrArg some (by kernel_rfl)),
 f166:=Tryz.func96.trans (congrArg some (by kernel_rfl)),
 f169:=Tryz.func97.trans (congrArg some (by kernel_rfl)),
 f240:=Tryz.func110.trans (congrArg some (by kernel_rfl)),
 f241:=Tryz.func111.trans (congrArg some (by kernel_rfl)),
 f276:=Tryz.func129.trans (congrArg some (by kernel_rfl)),
 f277:=Tryz.func130.trans (congrArg some (by kernel_rfl)),
 t0:=Tryz.underlying0,
 a0:=Tryz.isAgg0,
 z0:=Tryz.sizeOf0,
 v0:=Tryz.zeroValue0,
 t3:=Tryz.underlying3,
 a3:=Tryz.isAgg3,
 z3:=Tryz.sizeOf3,
 v3:=Tryz.zeroValue3,
 t4:=Tryz.underlying4,
 a4:=Tryz.isAgg4,
 z4:=Tryz.sizeOf4,
 v4:=Tryz.zeroValue4,
 t9:=Tryz.underlying9,
 a9:=Tryz.isAgg9,
 z9:=Tryz.sizeOf9,
 v9:=Tryz.zeroValue9,
 t20:=Tryz.underlying20,
 a20:=Tryz.isAgg20,
 z20:=Tryz.sizeOf20,
 v20:=Tryz.zeroValue20,
 t31:=Tryz.underlying98,
 a31:=Tryz.isAgg98,
 z31:=Tryz.sizeOf98,
 v31:=Tryz.zeroValue98,
 t37:=Tryz.underlying128,
 a37:=Tryz.isAgg128,
 z37:=Tryz.sizeOf128,
 v37:=Tryz.zeroValue128,
 t70:=Tryz.underlying127,
 a70:=Tryz.isAgg127,
 z70:=Tryz.sizeOf127,
 v70:=Tryz.zeroValue127,
 t72:=Tryz.underlying130,
 a72:=Tryz.isAgg130,
 z72:=Tryz.sizeOf130,
 v72:=Tryz.zeroValue130,
 t75:=Tryz.underlying133,
 a75:=Tryz.isAgg133,
 z75:=Tryz.sizeOf133,
 v75:=Tryz.zeroValue133,
 t76:=Tryz.underlying134,
 a76:=Tryz.isAgg134,
 z76:=Tryz.sizeOf134,
 v76:=Tryz.zeroValue134,
 t127:=Tryz.underlying155,
 a127:=Tryz.isAgg155,
 z127:=Tryz.sizeOf155,
 v127:=Tryz.zeroValue155,
 t164:=Tryz.underlying174,
 a164:=Tryz.isAgg174,
 z164:=Tryz.sizeOf174,
 v164:=Tryz.zeroValue174}
theorem Tryz.Nz:Builder.Extra Tryz.prog Tryz.PY where
 sizeBuilder:=by kernel_rfl
 liesBuilder:=by kernel_rfl
 t5:=Tryz.underlying5
 a5:=Tryz.isAgg5
 z5:=Tryz.sizeOf5
 v5:=Tryz.zeroValue5
 infoByte:=by kernel_rfl
 cellsByte:=by kernel_rfl
 sizeByte:=by kernel_rfl
 neB5:=by decide
def Tryz.PO:Go.Shelf.Ren:=⟨fun | 7=>51 | 10=>78 | n=>n,fun | 23=>65 | 26=>3 | 3=>67 | 28=>76 | 0=>0 | 27=>75 | 33=>111 | 4=>4 | n=>n,fun | n=>n⟩
theorem Tryz.afB:Go.Proofs.SlLaysZI.n7 Tryz.prog Tryz.PO where
 mixed:=by kernel_rfl
 f7:=⟨"maps.Keys[gimlet/types.maker,int,*gimlet/types.node]",by decide,Tryz.func51.trans (congrArg some (by kernel_rfl))⟩
 f10:=⟨"maps.Keys[gimlet/types.maker,int,*gimlet/types.node]$1",by decide,Tryz.func78.trans (congrArg some (by kernel_rfl))⟩
 t0:=Tryz.underlying0
 a0:=Tryz.isAgg0
 z0:=Tryz.sizeOf0
 v0:=Tryz.zeroValue0
 t4:=Tryz.underlying4
 a4:=Tryz.isAgg4
 z4:=Tryz.sizeOf4
 v4:=Tryz.zeroValue4
 t23:=Tryz.underlying65
 a23:=Tryz.isAgg65
 z23:=Tryz.sizeOf65
 v23:=Tryz.zeroValue65
 t26:=Tryz.underlying3
 a26:=Tryz.isAgg3
 z26:=Tryz.sizeOf3
 v26:=Tryz.zeroValue3
 t27:=Tryz.underlying75
 a27:=Tryz.isAgg75
 z27:=Tryz.sizeOf75
 v27:=Tryz.zeroValue75
 t28:=Tryz.underlying76
 a28:=Tryz.isAgg76
 z28:=Tryz.sizeOf76
 v28:=Tryz.zeroValue76
 t33:=Tryz.underlying111
 a33:=Tryz.isAgg111
 z33:=Tryz.sizeOf111
 v33:=Tryz.zeroValue111
def Tryz.Sy:Go.Shelf.Ren:=⟨fun | 6=>50 | 8=>76 | 9=>77 | 11=>100 | 13=>102 | 12=>101 | 23=>121 | 24=>122 | 14=>112 | 15=>113 | 16=>114 | 17=>115 | 18=>116 | 19=>117 | 20=>118 | 21=>119 | 22=>120 | 25=>131 | 26=>132 | 27=>133 | 28=>134 | 29=>135 | 30=>136 | 31=>151 | n=>n,fun | 26=>3 | 28=>76 | 24=>51 | 0=>0 | 3=>3 | 37=>141 | 48=>164 | 50=>166 | 4=>4 | 40=>158 | 39=>157 | 45=>112 | 5=>5 | 9=>9 | 51=>177 | 55=>90 | 57=>190 | 58=>92 | 33=>111 | n=>n,fun | n=>n⟩
theorem Tryz.ajS:Go.Proofs.SlLaysZI.n6 Tryz.prog Tryz.Sy where
 mixed:=by kernel_rfl
 f6:=⟨"slices.Sorted[int]",by decide,Tryz.func50.trans (congrArg some (by kernel_rfl))⟩
 f8:=⟨"slices.Collect[int]",by decide,Tryz.func76.trans (congrArg some (by kernel_rfl))⟩
 f11:=⟨"slices.AppendSeq[[]int,int]",by decide,Tryz.func100.trans (congrArg some (by kernel_rfl))⟩
 t0:=Tryz.underlying0
 a0:=Tryz.isAgg0
 z0:=Tryz.sizeOf0
 v0:=Tryz.zeroValue0
 t24:=Tryz.underlying51
 a24:=Tryz.isAgg51
 z24:=Tryz.sizeOf51
 v24:=Tryz.zeroValue51
 t26:=Tryz.underlying3
 a26:=Tryz.isAgg3
 z26:=Tryz.sizeOf3
 v26:=Tryz.zeroValue3
 t28:=Tryz.underlying76
 a28:=Tryz.isAgg76
 z28:=Tryz.sizeOf76
 v28:=Tryz.zeroValue76
 i26:=by kernel_rfl
def Tryz.ajQ:Go.Shelf.Ren:=⟨fun | 5=>77 | 8=>102 | 7=>101 | 19=>121 | 20=>122 | 10=>112 | 11=>113 | 12=>114 | 13=>115 | 14=>116 | 15=>117 | 16=>118 | 17=>119 | 18=>120 | 30=>131 | 31=>132 | 32=>133 | 33=>134 | 34=>135 | 35=>136 | 40=>151 | n=>n,fun | 23=>51 | 25=>3 | 3=>3 | 32=>141 | 22=>51 | 0=>0 | 44=>164 | 46=>166 | 4=>4 | 36=>158 | 35=>157 | 41=>112 | 5=>5 | 9=>9 | 53=>177 | 57=>90 | 63=>190 | 64=>92 | n=>n,fun | n=>n⟩
theorem Tryz.Sw:Go.Proofs.SlLaysM.n5 Tryz.prog Tryz.ajQ where
 mixed:=by kernel_rfl
 f5:=⟨"slices.Sort[[]int,int]",by decide,Tryz.func77.trans (congrArg some (by kernel_rfl))⟩
 f7:=⟨"slices.pdqsortOrdered[int]",by decide,Tryz.func101.trans (congrArg some (by kernel_rfl))⟩
 f8:=Tryz.func102.trans (congrArg some (by kernel_rfl))
 f10:=⟨"slices.insertionSortOrdered[int]",by decide,Tryz.func112.trans (congrArg some (by kernel_rfl))⟩
 f11:=⟨"slices.heapSortOrdered[int]",by decide,Tryz.func113.trans (congrArg some (by kernel_rfl))⟩
 f12:=⟨"slices.breakPatternsOrdered[int]",by decide,Tryz.func114.trans (congrArg some (by kernel_rfl))⟩
 f13:=⟨"slices.choosePivotOrdered[int]",by decide,Tryz.func115.trans (congrArg some (by kernel_rfl))⟩
 f14:=⟨"slices.reverseRangeOrdered[int]",by decide,Tryz.func116.trans (congrArg some (by kernel_rfl))⟩
 f15:=⟨"slices.partialInsertionSortOrdered[int]",by decide,Tryz.func117.trans (congrArg some (by kernel_rfl))⟩
 f16:=⟨"cmp.Less[int]",by decide,Tryz.func118.trans (congrArg some (by kernel_rfl))⟩
 f17:=⟨"slices.partitionEqualOrdered[int]",by decide,Tryz.func119.trans (congrArg some (by kernel_rfl))⟩
 f18:=⟨"slices.partitionOrdered[int]",by decide,Tryz.func120.trans (congrArg some (by kernel_rfl))⟩
 f19:=Tryz.func121.trans (congrArg some (by kernel_rfl))
 f20:=Tryz.func122.trans (congrArg some (by kernel_rfl))
 f30:=⟨"slices.siftDownOrdered[int]",by decide,Tryz.func131.trans (congrArg some (by kernel_rfl))⟩
 f31:=Tryz.func132.trans (congrArg some (by kernel_rfl))
 f32:=Tryz.func133.trans (congrArg some (by kernel_rfl))
 f33:=⟨"slices.medianAdjacentOrdered[int]",by decide,Tryz.func134.trans (congrArg some (by kernel_rfl))⟩
 f34:=⟨"slices.medianOrdered[int]",by decide,Tryz.func135.trans (congrArg some (by kernel_rfl))⟩
 f35:=⟨"cmp.isNaN[int]",by decide,Tryz.func136.trans (congrArg some (by kernel_rfl))⟩
 f40:=⟨"slices.order2Ordered[int]",by decide,Tryz.func151.trans (congrArg some (by kernel_rfl))⟩
 t0:=Tryz.underlying0
 a0:=Tryz.isAgg0
 z0:=Tryz.sizeOf0
 v0:=Tryz.zeroValue0
 t3:=Tryz.underlying3
 a3:=Tryz.isAgg3
 z3:=Tryz.sizeOf3
 v3:=Tryz.zeroValue3
 t4:=Tryz.underlying4
 a4:=Tryz.isAgg4
 z4:=Tryz.sizeOf4
 v4:=Tryz.zeroValue4
 t5:=Tryz.underlying5
 a5:=Tryz.isAgg5
 z5:=Tryz.sizeOf5
 v5:=Tryz.zeroValue5
 t9:=Tryz.underlying9
 a9:=Tryz.isAgg9
 z9:=Tryz.sizeOf9
 v9:=Tryz.zeroValue9
 t22:=Tryz.underlying51
 a22:=Tryz.isAgg51
 z22:=Tryz.sizeOf51
 v22:=Tryz.zeroValue51
 t23:=Tryz.underlying51
 a23:=Tryz.isAgg51
 z23:=Tryz.sizeOf51
 v23:=Tryz.zeroValue51
 t25:=Tryz.underlying3
 a25:=Tryz.isAgg3
 z25:=Tryz.sizeOf3
 v25:=Tryz.zeroValue3
 t32:=Tryz.underlying141
 a32:=Tryz.isAgg141
 z32:=Tryz.sizeOf141
 v32:=Tryz.zeroValue141
 t35:=Tryz.underlying157
 a35:=Tryz.isAgg157
 z35:=Tryz.sizeOf157
 v35:=Tryz.zeroValue157
 t36:=Tryz.underlying158
 a36:=Tryz.isAgg158
 z36:=Tryz.sizeOf158
 v36:=Tryz.zeroValue158
 t41:=Tryz.underlying112
 a41:=Tryz.isAgg112
 z41:=Tryz.sizeOf112
 v41:=Tryz.zeroValue112
 t44:=Tryz.underlying164
 a44:=Tryz.isAgg164
 z44:=Tryz.sizeOf164
 v44:=Tryz.zeroValue164
 t46:=Tryz.underlying166
 a46:=Tryz.isAgg166
 z46:=Tryz.sizeOf166
 v46:=Tryz.zeroValue166
 t53:=Tryz.underlying177
 a53:=Tryz.isAgg177
 z53:=Tryz.sizeOf177
 v53:=Tryz.zeroValue177
 t57:=Tryz.underlying90
 a57:=Tryz.isAgg90
 z57:=Tryz.sizeOf90
 v57:=Tryz.zeroValue90
 t63:=Tryz.underlying190
 a63:=Tryz.isAgg190
 z63:=Tryz.sizeOf190
 v63:=Tryz.zeroValue190
 t64:=Tryz.underlying92
 a64:=Tryz.isAgg92
 z64:=Tryz.sizeOf92
 v64:=Tryz.zeroValue92
theorem MR (s sub:ByteArray) (m:Int) (w:World) (aQ:s.size<4294967281) (hm:w.cell? ⟨0,0,none⟩=some (.int .i64 m)):
 Calls Tryz.prog 159 #[.string s,.string sub] w fun e ao=>e=.returned (.bool (Lib.contains s.data.toList sub.data.toList))∧ao=w:=Any.strings_Contains Tryz.agq s sub m w aQ hm
end
section
open Go.RowKit Go.Maps Go.Sort Go.Shelf
theorem ajV (m:Nat):AnyZI.SortsIn Tryz.prog Tryz.Sy Fence.wide m:=
 ⟨fun aW off cap fe W j8 ji ca=>callsIn_wide.2 (AnyM.slices_Sort_int Tryz.Sw aW off cap fe W j8 ji ca),
  fun p cap W=>callsIn_wide.2 (AnyM.slices_Sort_int_none Tryz.Sw p cap W)⟩
theorem ajT:aX.Ls Tryz.prog 50 78 3:=by
 intro qg b I' rD R w abR tS fi wI acd
 have adz:SeqGives Fence.wide 2 Tryz.prog 78 #[.pointer (some ⟨qg,0,none⟩)] encZ (fun fe=>fe.Perm (intKeys rD)) (Maps.size rD) w:=
  AnyZI.keys_gives (ρ:=Tryz.PO) {Tryz.afB with} Fence.wide _ trivial rfl (by omega) qg b I' rD w abR tS fi
 have Gu:=AnyZI.sorted_in Tryz.ajS Fence.wide 5 trivial trivial trivial trivial rfl (by omega) (ajV _) (enters_of Tryz.func77 (by kernel_rfl) rfl) 78 #[.pointer (some ⟨qg,0,none⟩)] trivial (enters_of Tryz.func78 (by kernel_rfl) rfl) _ _ wI acd _ adz
 change CallsIn _ _ Tryz.prog 50 _ _ _ at Gu
 exact callsIn_wide.1 (Gu.mono fun e ao q=>by
  obtain ⟨v,fe,rfl,dO,Ib,ov,ag⟩:=q
  exact ⟨v,fe,rfl,dO,Ib,ov,ag⟩)
end
theorem PI:Ep Tryz.prog 72:=
 ⟨fun yD o c xs sep w ab ae aG ba cz=>Go.Proofs.Any.strings_Join Tryz.PX Tryz.Nz yD o c xs sep w ab ae aG ba cz,fun a c sep w=>Go.Proofs.Any.strings_Join_none Tryz.PX Tryz.Nz a c sep w⟩
noncomputable def ctx:Ctx:=⟨Tryz.prog,fun f=>bif Nat.beq f 159 then some GB else bif Nat.beq f 50 then some (Kf 78) else bif Nat.beq f 72 then some w8 else none,fun f=>bif Nat.beq f 153 then some CL else none⟩
theorem follows:ctx.P.follows .mixedOrders=true:=by kernel_rfl
theorem cU:ez ctx.P:=by
 intro f fn ay
 have d_:(Tryz.prog.funcs.toList.all fun fn=>!(fn.name == "runtime.NumGoroutine"))=true:=by kernel_rfl
 have:=List.all_eq_true.1 d_ fn (Array.mem_toList_iff.2 (Array.mem_of_getElem? ay))
 simpa using this
theorem aiw:ql ctx:=by
 refine ⟨fun f p args h v aa ah he=>?_,fun f p args h v aa ah he aw E w xs aq s=>?_⟩
 · simp only [ctx,ho] at ah
   by_cases ay:f=159
   · rw [if_pos ay] at ah
     cases ah
     subst ay
     obtain ⟨s,sub,rfl,aQ,rfl,rfl⟩:=ZV he
     refine ⟨⟨_,Tryz.func159,by kernel_rfl⟩,agj fun E xs w ai aq=>?_⟩
     obtain ⟨y,cJ,rfl,an,z,iH,rfl,az,rfl⟩:=aq
     simp only [Rel] at an az
     subst an az
     obtain ⟨m,hm⟩:=ai.maxLen
     refine (MR ⟨⟨s⟩⟩ ⟨⟨sub⟩⟩ m w (by show s.length<4294967281;omega) hm).mono fun e ao q=>?_
     obtain ⟨rfl,rfl⟩:=q
     exact ⟨_,rfl,by simp only [Rel],Below.refl _ _⟩
   · rw [if_neg ay] at ah
     by_cases ay:f=50
     · rw [if_pos ay] at ah
       cases ah
       subst ay
       exact ⟨⟨_,Tryz.func50,by kernel_rfl⟩,fun aw E w xs aq s=>ajU (by decide) Tryz.underlying3 ajT he aw E w xs aq s⟩
     · rw [if_neg ay] at ah
       by_cases ay:f=72
       · rw [if_pos ay] at ah
         cases ah
         subst ay
         exact ⟨⟨_,Tryz.func72,by kernel_rfl⟩,fun aw E w xs aq s=>PG PI he aw E w xs aq s⟩
       · rw [if_neg ay] at ah;cases ah
 · simp only [ctx,ho] at ah
   by_cases ay:f=153
   · rw [if_pos ay] at ah
     cases ah
     subst ay
     exact aee (P:=Tryz.prog) Tryz.func153 (by kernel_rfl) (by kernel_rfl) (by kernel_rfl) (by kernel_rfl) he aw E w xs aq s
   · rw [if_neg ay] at ah;cases ah
end Go.Proofs.YthemdhlheglhoaaGreatDoor
namespace Go.Proofs.YthemdhlheglhoaaGreatDoor
open Go aX
abbrev aj (d a7:Nat):bD:=⟨some d,.fH (.t a7),none,[a7]⟩
abbrev br (d a7:Nat):bD:=⟨some d,.eu (.t a7),none,[a7]⟩
abbrev b' (d a7:Nat):bD:=⟨some d,.kd 4 (.t a7),none,[a7]⟩
abbrev dp (d a7 bj:Nat):bD:=⟨some d,.pick (.t a7) (.t bj) (.c (.bool false)),none,[a7,bj]⟩
abbrev dt (d a7:Nat):bD:=⟨some d,.sy (.t a7),none,[a7]⟩
abbrev dy (d a7:Nat):bD:=⟨some d,.il 1 (.t a7),none,[a7]⟩
abbrev dE (d:Nat):bD:=⟨some d,.fH (.c (.bool false)),none,[]⟩
abbrev d' (d a7:Nat):bD:=⟨some d,.il 3 (.t a7),none,[a7]⟩
abbrev ed (d a7 bj:Nat):bD:=⟨some d,.fH (.t a7),(some (bj,true)),[a7,bj]⟩
abbrev ep (d a7:Nat):bD:=⟨some d,.bin (.int .add) (.t a7) (.c (.int .i64 1)),none,[a7]⟩
abbrev eK (d a7:Nat):bD:=⟨some d,.box (.t a7),none,[a7]⟩
abbrev eL (d a7 bj:Nat):bD:=⟨some d,.eu (.t a7),(some (bj,true)),[a7,bj]⟩
abbrev eT (d:Nat):bD:=⟨some d,.fH (.c (.int .i64 0)),none,[]⟩
abbrev fm (d a7:Nat):bD:=⟨some d,.len .slice (.t a7),none,[a7]⟩
abbrev f_ (d a7:Nat):bD:=⟨some d,.il 0 (.t a7),none,[a7]⟩
abbrev gl (d a7 bj:Nat):bD:=⟨some d,.bin (.int .lss) (.t a7) (.t bj),none,[a7,bj]⟩
abbrev gw (d a7 bj:Nat):bD:=⟨some d,.pick (.t a7) (.c (.bool true)) (.t bj),none,[a7,bj]⟩
abbrev gD (d:Nat):bD:=⟨some d,.new [(.int .i64 0),(.int .i64 0),(.str []),.b6],none,[]⟩
abbrev gN (d a7:Nat):bD:=⟨some d,.il 2 (.t a7),none,[a7]⟩
abbrev hD (d a7 bj:Nat):bD:=⟨some d,.cD 4 (.t a7) (.t bj),none,[a7,bj]⟩
abbrev h2 (d a7 bj:Nat):bD:=⟨some d,.kd 4 (.t a7),(some (bj,true)),[a7,bj]⟩
abbrev iJ (d:Nat):bD:=⟨some d,.fH (.c .b6),none,[]⟩
abbrev je (d a7 bj:Nat):bD:=⟨some d,.fH (.t a7),(some (bj,false)),[a7,bj]⟩
abbrev j0 (d a7:Nat):bD:=⟨some d,.ext (.t a7) 0,none,[a7]⟩
abbrev j1 (d a7:Nat):bD:=⟨some d,.ext (.t a7) 1,none,[a7]⟩
abbrev kp (d a7 bj:Nat):bD:=⟨some d,.eu (.t a7),(some (bj,false)),[a7,bj]⟩
abbrev lD (d a7:Nat):bD:=⟨some d,.len .str (.t a7),none,[a7]⟩
abbrev mQ (d:Nat):bD:=⟨some d,.fH (.c (.bool true)),none,[]⟩
abbrev mR (d a7 bj:Nat):bD:=⟨some d,.il 3 (.t a7),(some (bj,true)),[a7,bj]⟩
abbrev mS (d a7:Nat):bD:=⟨some d,.bin (.int .eql) (.t a7) (.c (.int .i64 1)),none,[a7]⟩
abbrev mT (d a7 bj:Nat):bD:=⟨some d,.bin (.str .add) (.t a7) (.t bj),none,[a7,bj]⟩
abbrev nW (d a7:Nat):bD:=⟨some d,.un .not (.t a7),none,[a7]⟩
abbrev nX (d a7 bj:Nat):bD:=⟨some d,.il 1 (.t a7),(some (bj,true)),[a7,bj]⟩
abbrev nY (d a7 bj:Nat):bD:=⟨some d,.il 2 (.t a7),(some (bj,true)),[a7,bj]⟩
abbrev nZ (d:Nat):bD:=⟨some d,.fH (.c (.str [])),none,[]⟩
abbrev o6 (d a7:Nat):bD:=⟨some d,.hG 1 4 [(.int .i64 0),(.int .i64 0),(.str []),.b6] [(0,4,(.t a7))],none,[a7]⟩
abbrev rG (d a7:Nat):bD:=⟨some d,.cD 4 (.t a7) (.c (.int .i64 0)),none,[a7]⟩
abbrev rH (d a7 bj ct:Nat):bD:=⟨some d,.nb (.t a7) [(.t bj),(.t ct)],none,[a7,bj,ct]⟩
abbrev rI (d a7 bj:Nat):bD:=⟨some d,.cD 1 (.t a7) (.t bj),none,[a7,bj]⟩
abbrev tg (d a7 bj ct:Nat):bD:=⟨some d,.bin (.int .eql) (.t a7) (.t bj),(some (ct,true)),[a7,bj,ct]⟩
abbrev th (d a7 bj:Nat):bD:=⟨some d,.app 4 (.t a7) (.t bj),none,[a7,bj]⟩
abbrev ti (d a7 bj ct:Nat):bD:=⟨some d,.bin (.str .eql) (.t a7) (.t bj),(some (ct,true)),[a7,bj,ct]⟩
abbrev tj (d a7:Nat):bD:=⟨some d,.bin (.int .neq) (.t a7) (.c (.int .i64 0)),none,[a7]⟩
abbrev tk (d a7 bj:Nat):bD:=⟨some d,.il 2 (.t a7),(some (bj,false)),[a7,bj]⟩
abbrev tl (d a7:Nat):bD:=⟨some d,.bin (.int .eql) (.t a7) (.c (.int .i64 0)),none,[a7]⟩
abbrev vn (d a7 bj:Nat):bD:=⟨some d,.bin (.int .eql) (.t a7) (.t bj),none,[a7,bj]⟩
abbrev vo (d a7 bj:Nat):bD:=⟨some d,.len .slice (.t a7),(some (bj,true)),[a7,bj]⟩
abbrev vp (d a7 bj:Nat):bD:=⟨some d,.il 0 (.t a7),(some (bj,true)),[a7,bj]⟩
abbrev vq (d a7 bj:Nat):bD:=⟨some d,.sy (.t a7),(some (bj,true)),[a7,bj]⟩
abbrev x6 (d a7:Nat):bD:=⟨some d,.call 12 [(.t a7)],none,[a7]⟩
abbrev x7 (d a7 bj ct:Nat):bD:=⟨some d,.call 17 [(.t a7),(.t bj)],(some (ct,true)),[a7,bj,ct]⟩
abbrev x8 (d a7:Nat):bD:=⟨some d,.build [(.int .i64 0),(.int .i64 0),(.str []),.b6] [(0,1,(.c (.int .i64 1))),(1,1,(.t a7))],none,[a7]⟩
abbrev x9 (d a7:Nat):bD:=⟨some d,.cD 4 (.t a7) (.c (.int .i64 1)),none,[a7]⟩
abbrev x' (d a7 bj:Nat):bD:=⟨some d,.bin (.int .neq) (.t a7) (.t bj),none,[a7,bj]⟩
abbrev x_ (d:Nat):bD:=⟨some d,.new [(.int .i64 0)],none,[]⟩
abbrev ya (d a7 bj:Nat):bD:=⟨some d,.il 3 (.t a7),(some (bj,false)),[a7,bj]⟩
abbrev yb (d a7 bj:Nat):bD:=⟨some d,.len .slice (.t a7),(some (bj,false)),[a7,bj]⟩
abbrev yc (d a7 bj:Nat):bD:=⟨some d,.app 1 (.t a7) (.t bj),none,[a7,bj]⟩
abbrev yd (d a7:Nat):bD:=⟨some d,.call 73 [(.t a7)],none,[a7]⟩
abbrev ye (d a7:Nat):bD:=⟨some d,.bin (.int .geq) (.t a7) (.c (.int .i64 0)),none,[a7]⟩
abbrev yf (d a7 bj:Nat):bD:=⟨some d,.bin (.int .geq) (.t a7) (.t bj),none,[a7,bj]⟩
abbrev yg (d:Nat):bD:=⟨some d,.new [(.int .i64 0),(.int .i64 0),(.int .i64 0),(.str [])],none,[]⟩
abbrev AW (d a7:Nat):bD:=⟨some d,.call 11 [],(some (a7,true)),[a7]⟩
abbrev AX (d a7 bj:Nat):bD:=⟨some d,.kd 4 (.t a7),(some (bj,false)),[a7,bj]⟩
abbrev AY (d a7 bj:Nat):bD:=⟨some d,.bin (.int .add) (.t a7) (.t bj),none,[a7,bj]⟩
abbrev AZ (d a7 bj:Nat):bD:=⟨some d,.un .not (.t a7),(some (bj,true)),[a7,bj]⟩
abbrev A0 (d a7 bj:Nat):bD:=⟨some d,.nb (.t a7) [(.t bj)],none,[a7,bj]⟩
abbrev A1 (d a7:Nat):bD:=⟨some d,.bin (.str .eql) (.t a7) (.c (.str [45,62])),none,[a7]⟩
abbrev A2 (d a7 bj:Nat):bD:=⟨some d,.ll (.t a7) (.t bj),none,[a7,bj]⟩
abbrev A3 (d a7:Nat):bD:=⟨some d,.ll (.t a7) (.c (.int .i64 0)),none,[a7]⟩
abbrev A4 (d a7 bj:Nat):bD:=⟨some d,.bin (.int .eql) (.t a7) (.c (.int .u8 95)),(some (bj,false)),[a7,bj]⟩
abbrev Ed (d a7 bj:Nat):bD:=⟨some d,.hG 2 4 [(.int .i64 0),(.int .i64 0),(.str []),.b6] [(0,4,(.t a7)),(4,4,(.t bj))],none,[a7,bj]⟩
abbrev Ee (d a7 bj:Nat):bD:=⟨some d,.bin (.int .eql) (.t a7) (.c (.int .i64 0)),(some (bj,true)),[a7,bj]⟩
abbrev Ef (d a7 bj ct:Nat):bD:=⟨some d,.bin (.vY false) (.t a7) (.t bj),(some (ct,true)),[a7,bj,ct]⟩
abbrev Eg (d a7:Nat):bD:=⟨some d,.bin (.int .gtr) (.t a7) (.c (.int .i64 4096)),none,[a7]⟩
abbrev Eh (d a7 bj:Nat):bD:=⟨some d,.bin (.int .neq) (.t a7) (.c (.int .i64 0)),(some (bj,false)),[a7,bj]⟩
abbrev Ei (d:Nat):bD:=⟨some d,.build [(.int .i64 0),(.int .i64 0),(.str []),.b6] [],none,[]⟩
abbrev Ej (d a7 bj ct:Nat):bD:=⟨some d,.bin (.int .neq) (.t a7) (.t bj),(some (ct,false)),[a7,bj,ct]⟩
abbrev Ek (d a7:Nat):bD:=⟨some d,.bin (.str .add) (.c (.str [40])) (.t a7),none,[a7]⟩
abbrev El (d a7:Nat):bD:=⟨some d,.hG 1 1 [(.int .u8 0)] [(0,1,(.t a7))],none,[a7]⟩
abbrev Em (d a7:Nat):bD:=⟨some d,.call 106 [(.t a7),(.c (.int .u8 97)),(.c (.int .u8 122))],none,[a7]⟩
abbrev En (d a7 bj:Nat):bD:=⟨some d,.oQ (.t a7) (some (.t bj)) none none,none,[a7,bj]⟩
abbrev Eo (d:Nat):bD:=⟨some d,.build [(.int .i64 0),(.int .i64 0),(.int .i64 0),(.str [])] [],none,[]⟩
abbrev La (d a7 bj:Nat):bD:=⟨some d,.build [(.int .i64 0),(.int .i64 0),(.int .i64 0),(.str []),.b6] [(0,1,(.t a7)),(1,4,(.t bj))],none,[a7,bj]⟩
abbrev Lb (d a7:Nat):bD:=⟨some d,.hG 1 5 [(.int .i64 0),(.int .i64 0),(.int .i64 0),(.str []),.b6] [(0,5,(.t a7))],none,[a7]⟩
abbrev Lc (d a7 bj:Nat):bD:=⟨some d,.look .int (.agg [(.int .i64 0),(.int .i64 0),(.str []),.b6]) true (.t a7) (.t bj),none,[a7,bj]⟩
abbrev Ld (d a7:Nat):bD:=⟨some d,.build [(.int .i64 0),(.int .i64 0),(.int .i64 0),(.str [])] [(0,1,(.c (.int .i64 7))),(3,1,(.t a7))],none,[a7]⟩
def c3:bx:=
 .seq (.ar [dE 4])
 (.seq (.seq (.ar [aj 12 0,⟨some 13,.call 10 [(.t 12),(.c (.int .i64 300))],none,[12]⟩,aj 14 13,je 15 1 14,⟨some 16,.call 10 [(.t 15),(.c (.int .i64 300))],(some (14,false)),[15,14]⟩,gw 17 14 16])
 (.cond (.t 17)
 (.seq (.ar [⟨some 18,.call 11 [],none,[]⟩,aj 4 18])
 (.ret))
 (.skip)))
 (.seq (.ar [aj 19 0,x6 20 19,aj 21 1,x6 22 21,aj 5 20,aj 6 22])
 (.seq (.ar [aj 24 5,aj 25 6,⟨some 26,.call 13 [(.t 24),(.t 25)],none,[24,25]⟩,aj 23 26,j0 27 23,j1 28 23,aj 7 27,aj 8 28])
 (.seq (.ar [aj 30 0,aj 31 1,⟨some 32,.call 14 [(.t 30),(.t 31)],none,[30,31]⟩,aj 29 32,j0 33 29,j1 34 29,aj 9 33,aj 10 34])
 (.seq (.ar [aj 35 7,aj 36 9,⟨some 37,.call 15 [(.t 35),(.t 36)],none,[35,36]⟩,aj 38 37,ed 39 8 38,ed 40 10 38,tg 41 39 40 38,dp 42 38 41,aj 11 42])
 (.seq (.ar [aj 43 7,⟨some 44,.call 16 [(.t 43)],none,[43]⟩])
 (.seq (.ar [aj 45 11,aj 46 45,ed 47 5 46,ed 48 0 46,x7 49 47 48 46,dp 50 46 49,aj 51 50,ed 52 6 51,ed 53 1 51,x7 54 52 53 51,dp 55 51 54,aj 56 55,AW 57 56,dp 58 56 57,aj 4 58])
 (.ret))))))))
def X9:bx:=
 .seq (.seq (.ar [aj 19 7,aj 20 0,gl 21 19 20])
 (.cond (.t 21)
 (.skip)
 (.exit 0)))
 (.seq (.block 1 (.seq (.ar [aj 24 7,ep 25 24,x8 26 25,gD 8,⟨none,.st 4 (.t 8) (.t 26),none,[8,26]⟩])
 (.seq (.ar [aj 27 5,aj 28 7,x8 29 28,o6 30 29,th 31 27 30,aj 5 31])
 (.ar [aj 32 6,b' 33 8,b' 34 8,Ed 35 33 34,⟨some 36,.build [(.int .i64 0),(.int .i64 0),(.str []),.b6] [(0,1,(.c (.int .i64 2))),(2,1,(.c (.str [42]))),(3,1,(.t 35))],none,[35]⟩,o6 37 36,th 38 32 37,aj 6 38]))))
 (.ar [aj 22 7,ep 23 22,aj 7 23]))
def X':bx:=
 .seq (.seq (.ar [aj 41 10,aj 42 1,gl 43 41 42])
 (.cond (.t 43)
 (.skip)
 (.exit 2)))
 (.seq (.block 3 (.ar [b' 46 9,o6 47 46,⟨some 48,.build [(.int .i64 0),(.int .i64 0),(.str []),.b6] [(0,1,(.c (.int .i64 2))),(2,1,(.c (.str [114,101,102]))),(3,1,(.t 47))],none,[47]⟩,⟨none,.st 4 (.t 9) (.t 48),none,[9,48]⟩]))
 (.ar [aj 44 10,ep 45 44,aj 10 45]))
def dN:bx:=
 .seq (.ar [dE 4])
 (.seq (.ar [aj 15 0,⟨some 16,.call 18 [(.t 15),(.c (.int .i64 15))],none,[15]⟩,aj 17 1,⟨some 18,.call 18 [(.t 17),(.c (.int .i64 206))],none,[17]⟩,aj 0 16,aj 1 18])
 (.seq (.ar [iJ 5,iJ 6])
 (.seq (.seq (.ar [eT 7])
 (.block 0 (.loop X9)))
 (.seq (.ar [aj 39 0,x8 40 39,gD 9,⟨none,.st 4 (.t 9) (.t 40),none,[9,40]⟩])
 (.seq (.seq (.ar [⟨some 10,.fH (.c (.int .i64 1)),none,[]⟩])
 (.block 2 (.loop X')))
 (.seq (.ar [aj 50 5,aj 51 6,⟨some 52,.call 13 [(.t 50),(.t 51)],none,[50,51]⟩,aj 49 52,j0 53 49,j1 54 49,aj 11 53,aj 12 54])
 (.seq (.ar [aj 56 5,aj 57 6,⟨some 58,.call 14 [(.t 56),(.t 57)],none,[56,57]⟩,aj 55 58,j0 59 55,j1 60 55,aj 13 59,aj 14 60])
 (.seq (.draw [aj 61 11,aj 62 13,⟨some 63,.call 15 [(.t 61),(.t 62)],none,[61,62]⟩,aj 64 63,ed 65 12 64,ed 66 14 64,tg 67 65 66 64,dp 68 64 67,aj 69 68,h2 70 9 69,h2 72 9 69,⟨some 71,.call 19 [(.t 70)],(some (69,true)),[70,69]⟩,⟨some 73,.call 20 [(.t 72)],(some (69,true)),[72,69]⟩,tg 74 71 73 69,dp 75 69 74,aj 76 75,h2 77 9 76,ed 80 1 76,⟨some 81,.bin (.int .leq) (.t 80) (.c (.int .i64 200)),(some (76,true)),[80,76]⟩,⟨some 78,.call 19 [(.t 77)],(some (76,true)),[77,76]⟩,Ee 79 78 76,Ef 82 79 81 76,dp 83 76 82,aj 84 83,AW 85 84,dp 86 84 85,aj 4 86] [(9,[11]),(10,[11,12]),(16,[19])])
 (.ret)))))))))
def c5:bx:=
 .seq (.ar [eK 3 1,dE 4])
 (.seq (.seq (.ar [aj 12 0,⟨some 13,.call 21 [(.t 12),(.c (.int .i64 300))],none,[12]⟩,aj 14 13,AX 15 3 14,⟨some 16,.hG 1 4 [(.int .i64 0),(.int .i64 0),(.str []),.b6] [(0,4,(.t 15))],(some (14,false)),[15,14]⟩,⟨some 17,.call 10 [(.t 16),(.c (.int .i64 300))],(some (14,false)),[16,14]⟩,gw 18 14 17])
 (.cond (.t 18)
 (.seq (.ar [⟨some 19,.call 11 [],none,[]⟩,aj 4 19])
 (.ret))
 (.skip)))
 (.seq (.ar [b' 20 3,o6 21 20,x6 22 21,aj 23 0,⟨some 24,.call 22 [(.t 23)],none,[23]⟩,aj 5 22,aj 6 24])
 (.seq (.ar [aj 26 6,aj 27 5,rG 28 27,b' 29 28,⟨some 30,.call 23 [(.t 26),(.t 29)],none,[26,29]⟩,aj 25 30,j0 31 25,j1 32 25,gD 7,⟨none,.st 4 (.t 7) (.t 31),none,[7,31]⟩,aj 8 32])
 (.seq (.ar [aj 34 0,b' 35 3,⟨some 36,.call 24 [(.t 34),(.t 35)],none,[34,35]⟩,aj 33 36,j0 37 33,j1 38 33,gD 9,⟨none,.st 4 (.t 9) (.t 37),none,[9,37]⟩,aj 10 38])
 (.seq (.ar [b' 39 7,b' 40 9,⟨some 41,.call 25 [(.t 39),(.t 40)],none,[39,40]⟩,aj 42 41,ed 43 8 42,ed 44 10 42,tg 45 43 44 42,dp 46 42 45,aj 11 46])
 (.seq (.ar [b' 47 7,o6 48 47,⟨some 49,.call 26 [(.t 48)],none,[48]⟩])
 (.seq (.ar [aj 50 11,aj 51 50,ed 52 5 51,h2 53 3 51,⟨some 54,.hG 1 4 [(.int .i64 0),(.int .i64 0),(.str []),.b6] [(0,4,(.t 53))],(some (51,true)),[53,51]⟩,x7 55 52 54 51,dp 56 51 55,aj 57 56,ed 58 6 57,ed 59 0 57,⟨some 60,.call 15 [(.t 58),(.t 59)],(some (57,true)),[58,59,57]⟩,dp 61 57 60,aj 62 61,AW 63 62,dp 64 62 63,aj 4 64])
 (.ret))))))))
def Ge:bx:=
 .seq (.ar [eK 2 0,eK 3 1,dE 4])
 (.seq (.seq (.ar [b' 10 2,b' 11 3,Ed 12 10 11,⟨some 13,.call 10 [(.t 12),(.c (.int .i64 400))],none,[12]⟩])
 (.cond (.t 13)
 (.seq (.ar [⟨some 14,.call 11 [],none,[]⟩,aj 4 14])
 (.ret))
 (.skip)))
 (.seq (.ar [b' 15 2,b' 16 3,Ed 17 15 16,x6 18 17,aj 5 18])
 (.seq (.draw [aj 19 5,rG 20 19,b' 21 20,aj 22 5,x9 23 22,b' 24 23,gD 6,gD 7,⟨none,.st 4 (.t 6) (.t 21),none,[6,21]⟩,⟨none,.st 4 (.t 7) (.t 24),none,[7,24]⟩] [(2,[8]),(5,[8,9])])
 (.seq (.draw [b' 25 6,b' 27 2,⟨some 26,.call 19 [(.t 25)],none,[25]⟩,⟨some 28,.call 20 [(.t 27)],none,[27]⟩,vn 29 26 28,aj 30 29,h2 31 6 30,h2 33 2 30,⟨some 32,.call 30 [(.t 31)],(some (30,true)),[31,30]⟩,⟨some 34,.call 31 [(.t 33)],(some (30,true)),[33,30]⟩,tg 35 32 34 30,dp 36 30 35,aj 37 36,h2 38 6 37,h2 39 7 37,h2 41 2 37,h2 42 3 37,⟨some 40,.call 28 [(.t 38),(.t 39)],(some (37,true)),[38,39,37]⟩,⟨some 43,.call 32 [(.t 41),(.t 42)],(some (37,true)),[41,42,37]⟩,Ef 44 40 43 37,dp 45 37 44,aj 8 45] [(0,[2]),(1,[2,3]),(6,[8]),(7,[8,9]),(13,[17]),(14,[17]),(15,[17,18]),(16,[17,18])])
 (.seq (.draw [aj 46 8,aj 47 46,h2 48 6 47,h2 50 2 47,⟨some 49,.call 34 [(.t 48)],(some (47,true)),[48,47]⟩,⟨some 51,.call 35 [(.t 50)],(some (47,true)),[50,47]⟩,⟨some 52,.call 33 [(.t 49),(.t 51)],(some (47,true)),[49,51,47]⟩,dp 53 47 52,aj 54 53,h2 55 6 54,h2 57 2 54,⟨some 56,.call 36 [(.t 55)],(some (54,true)),[55,54]⟩,⟨some 58,.call 37 [(.t 57)],(some (54,true)),[57,54]⟩,ti 59 56 58 54,dp 60 54 59,aj 61 60,h2 62 6 61,h2 63 7 61,h2 65 2 61,h2 66 3 61,⟨some 64,.call 27 [(.t 62),(.t 63)],(some (61,true)),[62,63,61]⟩,⟨some 67,.call 38 [(.t 65),(.t 66)],(some (61,true)),[65,66,61]⟩,Ef 68 64 67 61,dp 69 61 68,aj 8 69] [(2,[4]),(3,[4,5]),(9,[11]),(10,[11,12]),(16,[20]),(17,[20]),(18,[20,21]),(19,[20,21])])
 (.seq (.ar [b' 70 6,⟨some 71,.call 29 [(.t 70)],none,[70]⟩,gD 9,⟨none,.st 4 (.t 9) (.t 71),none,[9,71]⟩])
 (.seq (.draw [aj 72 8,aj 73 72,h2 74 9 73,h2 75 2 73,⟨some 76,.call 39 [(.t 75)],(some (73,true)),[75,73]⟩,⟨some 77,.call 25 [(.t 74),(.t 76)],(some (73,true)),[74,76,73]⟩,dp 78 73 77,aj 8 78] [(2,[4,5]),(3,[4])])
 (.seq (.ar [b' 79 9,o6 80 79,⟨some 81,.call 26 [(.t 80)],none,[80]⟩])
 (.seq (.ar [aj 82 8,aj 83 82,ed 84 5 83,h2 85 2 83,h2 86 3 83,⟨some 87,.hG 2 4 [(.int .i64 0),(.int .i64 0),(.str []),.b6] [(0,4,(.t 85)),(4,4,(.t 86))],(some (83,true)),[85,86,83]⟩,x7 88 84 87 83,dp 89 83 88,aj 90 89,AW 91 90,dp 92 90 91,aj 4 92])
 (.ret))))))))))
theorem YS:b9 Tryz.prog Tryz.f7.ntmps (Tryz.f7.body.getD .skip)=Ge:=by kernel_rfl
theorem YT:cE Tryz.prog Tryz.f7.ntmps Tryz.f7.results.toList=[.t 4]:=by kernel_rfl
theorem YR {args:List V} {h:af} {K:V→af→Prop} (ai:Nat.ble args.length 93=true) (H:b7 Tryz.prog Ge (aR.a1 args) h fun e r aa=>e.ends∧∃ad,cu r aa [.t 4]=some ad∧K (oneOf ad) aa):bB Tryz.prog 7 args h K:=
 c' follows cU Tryz.func7 (c:=Tryz.f7.body.getD .skip) (by kernel_rfl) (by kernel_rfl) (by kernel_rfl) ai YS YT (by kernel_rfl) H
def Fe:bx:=
 .seq (.ar [dE 4])
 (.seq (.ar [aj 5 0,aj 6 1,⟨some 7,.call 46 [(.t 5),(.t 6)],none,[5,6]⟩,aj 8 1,⟨some 9,.bin (.int .gtr) (.t 7) (.t 8),none,[7,8]⟩,aj 4 9])
 (.ret))
theorem Wg:b9 Tryz.prog Tryz.f10.ntmps (Tryz.f10.body.getD .skip)=Fe:=by kernel_rfl
theorem Wh:cE Tryz.prog Tryz.f10.ntmps Tryz.f10.results.toList=[.t 4]:=by kernel_rfl
theorem Wf {args:List V} {h:af} {K:V→af→Prop} (ai:Nat.ble args.length 10=true) (H:b7 Tryz.prog Fe (aR.a1 args) h fun e r aa=>e.ends∧∃ad,cu r aa [.t 4]=some ad∧K (oneOf ad) aa):bB Tryz.prog 10 args h K:=
 c' follows cU Tryz.func10 (c:=Tryz.f10.body.getD .skip) (by kernel_rfl) (by kernel_rfl) (by kernel_rfl) ai Wg Wh (by kernel_rfl) H
def Mk:bx:=
 .seq (.seq (.ar [aj 6 4,aj 7 0,fm 8 7,gl 9 6 8])
 (.cond (.t 9)
 (.skip)
 (.exit 0)))
 (.seq (.block 1 (.seq (.ar [aj 12 0,aj 13 4,hD 14 12 13,b' 15 14,gD 5,⟨none,.st 4 (.t 5) (.t 15),none,[5,15]⟩])
 (.seq (.ar [aj 16 0,aj 17 4,hD 18 16 17,d' 19 18,br 20 19,x6 21 20,d' 22 5,⟨none,.st 1 (.t 22) (.t 21),none,[22,21]⟩])
 (.ar [aj 23 3,b' 24 5,o6 25 24,th 26 23 25,aj 3 26]))))
 (.ar [aj 10 4,ep 11 10,aj 4 11]))
def Fk:bx:=
 .seq (.ar [iJ 2])
 (.seq (.ar [iJ 3])
 (.seq (.seq (.ar [eT 4])
 (.block 0 (.loop Mk)))
 (.seq (.ar [aj 27 3,aj 2 27])
 (.ret))))
theorem Wy:b9 Tryz.prog Tryz.f12.ntmps (Tryz.f12.body.getD .skip)=Fk:=by kernel_rfl
theorem Wz:cE Tryz.prog Tryz.f12.ntmps Tryz.f12.results.toList=[.t 2]:=by kernel_rfl
theorem Wx {args:List V} {h:af} {K:V→af→Prop} (ai:Nat.ble args.length 28=true) (H:b7 Tryz.prog Fk (aR.a1 args) h fun e r aa=>e.ends∧∃ad,cu r aa [.t 2]=some ad∧K (oneOf ad) aa):bB Tryz.prog 12 args h K:=
 c' follows cU Tryz.func12 (c:=Tryz.f12.body.getD .skip) (by kernel_rfl) (by kernel_rfl) (by kernel_rfl) ai Wy Wz (by kernel_rfl) H
def Mn:bx:=
 .seq (.seq (.ar [aj 11 5,aj 12 0,fm 13 12,gl 14 11 13])
 (.cond (.t 14)
 (.skip)
 (.exit 0)))
 (.seq (.block 1 (.seq (.draw [aj 17 0,aj 18 5,hD 19 17 18,b' 20 19,aj 21 1,aj 22 5,hD 23 21 22,b' 24 23,⟨some 25,.call 25 [(.t 20),(.t 24)],none,[20,24]⟩,nW 26 25] [(3,[8]),(7,[8])])
 (.cond (.t 26)
 (.seq (.ar [dE 4])
 (.ret))
 (.skip))))
 (.ar [aj 15 5,ep 16 15,aj 5 16]))
def qD:bx:=
 .seq (.ar [dE 4])
 (.seq (.seq (.ar [aj 6 0,fm 7 6,aj 8 1,fm 9 8,x' 10 7 9])
 (.cond (.t 10)
 (.seq (.ar [dE 4])
 (.ret))
 (.skip)))
 (.seq (.seq (.ar [eT 5])
 (.block 0 (.loop Mn)))
 (.seq (.ar [mQ 4])
 (.ret))))
theorem Xe:b9 Tryz.prog Tryz.f17.ntmps (Tryz.f17.body.getD .skip)=qD:=by kernel_rfl
theorem Xf:cE Tryz.prog Tryz.f17.ntmps Tryz.f17.results.toList=[.t 4]:=by kernel_rfl
theorem Xd {args:List V} {h:af} {K:V→af→Prop} (ai:Nat.ble args.length 27=true) (H:b7 Tryz.prog qD (aR.a1 args) h fun e r aa=>e.ends∧∃ad,cu r aa [.t 4]=some ad∧K (oneOf ad) aa):bB Tryz.prog 17 args h K:=
 c' follows cU Tryz.func17 (c:=Tryz.f17.body.getD .skip) (by kernel_rfl) (by kernel_rfl) (by kernel_rfl) ai Xe Xf (by kernel_rfl) H
def FF:bx:=
 .seq (.ar [aj 5 9])
 (.ar [gD 6,⟨none,.st 4 (.t 6) (.t 10),none,[6,10]⟩])
def FG:bx:=
 .block 1 (.seq (.seq (.ar [b' 11 6,⟨some 12,.call 57 [(.t 11)],none,[11]⟩,nW 13 12])
 (.cond (.t 13)
 (.seq (.ar [⟨none,.st 1 (.t 2) (.c (.int .i64 2)),none,[2]⟩])
 (.ret))
 (.skip)))
 (.seq (.ar [br 14 3,ep 15 14,⟨none,.st 1 (.t 3) (.t 15),none,[3,15]⟩])
 (.ar [br 16 4,aj 17 5,⟨some 18,.dK [(.t 16),(.t 17)],none,[16,17]⟩,⟨none,.st 1 (.t 4) (.t 18),none,[4,18]⟩])))
def FE:bx:=
 .seq (.ar [eK 1 0,x_ 2])
 (.seq (.ar [x_ 3,x_ 4,⟨none,.st 1 (.t 3) (.c (.int .i64 0)),none,[3]⟩,⟨none,.st 1 (.t 4) (.c (.int .i64 0)),none,[4]⟩])
 (.seq (.seq (.ar [b' 7 1,⟨some 8,.call 56 [(.t 7)],none,[7]⟩])
 (.block 0 (bx.range (.t 8) [9,10] 25 FF FG)))
 (.seq (.seq (.ar [br 19 3,Eg 20 19,aj 21 20,kp 22 4 21,⟨some 23,.bin (.int .gtr) (.t 22) (.c (.int .i64 200)),(some (21,false)),[22,21]⟩,gw 24 21 23])
 (.cond (.t 24)
 (.seq (.ar [⟨none,.st 1 (.t 2) (.c (.int .i64 3)),none,[2]⟩])
 (.ret))
 (.skip)))
 (.seq (.ar [⟨none,.st 1 (.t 2) (.c (.int .i64 0)),none,[2]⟩])
 (.ret)))))
theorem Xh:b9 Tryz.prog Tryz.f19.ntmps (Tryz.f19.body.getD .skip)=FE:=by kernel_rfl
theorem Xi:cE Tryz.prog Tryz.f19.ntmps Tryz.f19.results.toList=[.bu 2]:=by kernel_rfl
theorem Xg {args:List V} {h:af} {K:V→af→Prop} (ai:Nat.ble args.length 25=true) (H:b7 Tryz.prog FE (aR.a1 args) h fun e r aa=>e.ends∧∃ae,lo (r dY).list aa=some ae∧∃ad,cu r ae [.bu 2]=some ad∧K (oneOf ad) ae):bB Tryz.prog 19 args h K:=
 GD follows cU Tryz.func19 (c:=Tryz.f19.body.getD .skip) (by kernel_rfl) (by kernel_rfl) (by kernel_rfl) ai Xh Xi H
def FH:bx:=
 .seq (.ar [eK 1 0,eT 2])
 (.seq (.seq (.ar [b' 3 1,⟨some 4,.call 58 [(.t 3)],none,[3]⟩,nW 5 4])
 (.cond (.t 5)
 (.seq (.ar [⟨some 2,.fH (.c (.int .i64 2)),none,[]⟩])
 (.ret))
 (.skip)))
 (.seq (.seq (.ar [b' 6 1,⟨some 7,.call 31 [(.t 6)],none,[6]⟩,Eg 8 7,aj 9 8,AX 10 1 9,⟨some 11,.call 59 [(.t 10)],(some (9,false)),[10,9]⟩,⟨some 12,.bin (.int .gtr) (.t 11) (.c (.int .i64 200)),(some (9,false)),[11,9]⟩,gw 13 9 12])
 (.cond (.t 13)
 (.seq (.ar [⟨some 2,.fH (.c (.int .i64 3)),none,[]⟩])
 (.ret))
 (.skip)))
 (.seq (.ar [eT 2])
 (.ret))))
theorem Xl:b9 Tryz.prog Tryz.f20.ntmps (Tryz.f20.body.getD .skip)=FH:=by kernel_rfl
theorem Xm:cE Tryz.prog Tryz.f20.ntmps Tryz.f20.results.toList=[.t 2]:=by kernel_rfl
theorem Xk {args:List V} {h:af} {K:V→af→Prop} (ai:Nat.ble args.length 14=true) (H:b7 Tryz.prog FH (aR.a1 args) h fun e r aa=>e.ends∧∃ad,cu r aa [.t 2]=some ad∧K (oneOf ad) aa):bB Tryz.prog 20 args h K:=
 c' follows cU Tryz.func20 (c:=Tryz.f20.body.getD .skip) (by kernel_rfl) (by kernel_rfl) (by kernel_rfl) ai Xl Xm (by kernel_rfl) H
def FI:bx:=
 .seq (.ar [eK 2 0,eK 3 1,dE 4])
 (.seq (.ar [f_ 5 2,br 6 5,f_ 7 3,br 8 7,vn 9 6 8,aj 10 9,nX 11 2 10,eL 12 11 10,nX 13 3 10,eL 14 13 10,tg 15 12 14 10,dp 16 10 15,aj 17 16,nY 18 2 17,eL 19 18 17,nY 20 3 17,eL 21 20 17,ti 22 19 21 17,dp 23 17 22,aj 24 23,mR 25 2 24,eL 26 25 24,mR 27 3 24,eL 28 27 24,x7 29 26 28 24,dp 30 24 29,aj 4 30])
 (.ret))
theorem Xo:b9 Tryz.prog Tryz.f25.ntmps (Tryz.f25.body.getD .skip)=FI:=by kernel_rfl
theorem Xp:cE Tryz.prog Tryz.f25.ntmps Tryz.f25.results.toList=[.t 4]:=by kernel_rfl
theorem Xn {args:List V} {h:af} {K:V→af→Prop} (ai:Nat.ble args.length 31=true) (H:b7 Tryz.prog FI (aR.a1 args) h fun e r aa=>e.ends∧∃ad,cu r aa [.t 4]=some ad∧K (oneOf ad) aa):bB Tryz.prog 25 args h K:=
 c' follows cU Tryz.func25 (c:=Tryz.f25.body.getD .skip) (by kernel_rfl) (by kernel_rfl) (by kernel_rfl) ai Xo Xp (by kernel_rfl) H
def Mo:bx:=
 .seq (.seq (.ar [aj 3 2,aj 4 0,fm 5 4,gl 6 3 5])
 (.cond (.t 6)
 (.skip)
 (.exit 0)))
 (.seq (.block 1 (.seq (.ar [aj 9 0,aj 10 2,hD 11 9 10,d' 12 11,br 13 12,⟨some 14,.call 26 [(.t 13)],none,[13]⟩])
 (.ar [aj 15 0,aj 16 2,⟨some 17,.build [(.int .i64 0),(.int .i64 0),(.str []),.b6] [(0,1,(.c (.int .i64 77)))],none,[]⟩,hD 18 15 16,⟨none,.st 4 (.t 18) (.t 17),none,[18,17]⟩])))
 (.ar [aj 7 2,ep 8 7,aj 2 8]))
def FJ:bx:=
 .seq (.ar [eT 2])
 (.block 0 (.loop Mo))
theorem Xr:b9 Tryz.prog Tryz.f26.ntmps (Tryz.f26.body.getD .skip)=FJ:=by kernel_rfl
theorem Xs:cE Tryz.prog Tryz.f26.ntmps Tryz.f26.results.toList=[]:=by kernel_rfl
theorem Xq {args:List V} {h:af} {K:V→af→Prop} (ai:Nat.ble args.length 19=true) (H:b7 Tryz.prog FJ (aR.a1 args) h fun e r aa=>e.ends∧∃ad,cu r aa []=some ad∧K (oneOf ad) aa):bB Tryz.prog 26 args h K:=
 c' follows cU Tryz.func26 (c:=Tryz.f26.body.getD .skip) (by kernel_rfl) (by kernel_rfl) (by kernel_rfl) ai Xr Xs (by kernel_rfl) H
def FK:bx:=
 .seq (.ar [eK 2 0,eK 3 1,dE 4])
 (.seq (.seq (.ar [b' 7 2,⟨some 8,.call 19 [(.t 7)],none,[7]⟩,tj 9 8,aj 10 9,AX 11 3 10,⟨some 12,.call 19 [(.t 11)],(some (10,false)),[11,10]⟩,Eh 13 12 10,gw 14 10 13])
 (.cond (.t 14)
 (.seq (.ar [dE 4])
 (.ret))
 (.skip)))
 (.seq (.ar [⟨some 15,.sw none,none,[]⟩,⟨some 5,.new [.jL],none,[]⟩,⟨none,.st 1 (.t 5) (.t 15),none,[5,15]⟩])
 (.seq (.ar [⟨some 6,.new [.iW],none,[]⟩])
 (.seq (.ar [⟨some 16,.fn 65 [(.t 5),(.t 6)],none,[5,6]⟩,⟨none,.st 1 (.t 6) (.t 16),none,[6,16]⟩])
 (.seq (.ar [br 17 6,b' 18 2,b' 19 3,rH 20 17 18 19,aj 4 20])
 (.ret))))))
theorem Xu:b9 Tryz.prog Tryz.f27.ntmps (Tryz.f27.body.getD .skip)=FK:=by kernel_rfl
theorem Xv:cE Tryz.prog Tryz.f27.ntmps Tryz.f27.results.toList=[.t 4]:=by kernel_rfl
theorem Xt {args:List V} {h:af} {K:V→af→Prop} (ai:Nat.ble args.length 21=true) (H:b7 Tryz.prog FK (aR.a1 args) h fun e r aa=>e.ends∧∃ad,cu r aa [.t 4]=some ad∧K (oneOf ad) aa):bB Tryz.prog 27 args h K:=
 c' follows cU Tryz.func27 (c:=Tryz.f27.body.getD .skip) (by kernel_rfl) (by kernel_rfl) (by kernel_rfl) ai Xu Xv (by kernel_rfl) H
def FL:bx:=
 .seq (.ar [eK 2 0,eK 3 1,dE 4])
 (.seq (.ar [f_ 5 2,br 6 5,f_ 7 3,br 8 7,vn 9 6 8,aj 10 9,nX 11 2 10,eL 12 11 10,nX 13 3 10,eL 14 13 10,tg 15 12 14 10,dp 16 10 15,aj 17 16,nY 18 2 17,eL 19 18 17,nY 20 3 17,eL 21 20 17,ti 22 19 21 17,dp 23 17 22,aj 24 23,mR 25 2 24,eL 26 25 24,mR 27 3 24,eL 28 27 24,⟨some 29,.call 66 [(.t 26),(.t 28),(.c (.func 28 []))],(some (24,true)),[26,28,24]⟩,dp 30 24 29,aj 4 30])
 (.ret))
theorem Xx:b9 Tryz.prog Tryz.f28.ntmps (Tryz.f28.body.getD .skip)=FL:=by kernel_rfl
theorem Xy:cE Tryz.prog Tryz.f28.ntmps Tryz.f28.results.toList=[.t 4]:=by kernel_rfl
theorem Xw {args:List V} {h:af} {K:V→af→Prop} (ai:Nat.ble args.length 31=true) (H:b7 Tryz.prog FL (aR.a1 args) h fun e r aa=>e.ends∧∃ad,cu r aa [.t 4]=some ad∧K (oneOf ad) aa):bB Tryz.prog 28 args h K:=
 c' follows cU Tryz.func28 (c:=Tryz.f28.body.getD .skip) (by kernel_rfl) (by kernel_rfl) (by kernel_rfl) ai Xx Xy (by kernel_rfl) H
def Mq:bx:=
 .seq (.ar [gl 16 15 14])
 (.seq (.cond (.t 16)
 (.skip)
 (.exit 0))
 (.seq (.block 1 (.seq (.ar [aj 17 15,rI 18 13 15,br 19 18,aj 4 17,aj 5 19])
 (.ar [aj 20 3,aj 21 5,aj 22 4,x8 23 22,⟨none,.l' .int (.t 20) (.t 21) (.t 23),none,[20,21,23]⟩])))
 (.ar [ep 24 15,aj 15 24])))
def FM:bx:=
 .seq (.ar [eK 1 0,gD 2])
 (.seq (.seq (.ar [b' 7 1,⟨some 8,.call 19 [(.t 7)],none,[7]⟩,tj 9 8])
 (.cond (.t 9)
 (.seq (.ar [Ei 10,⟨none,.st 4 (.t 2) (.t 10),none,[2,10]⟩])
 (.ret))
 (.skip)))
 (.seq (.ar [⟨some 11,.sw none,none,[]⟩,aj 3 11])
 (.seq (.seq (.ar [b' 12 1,⟨some 13,.call 34 [(.t 12)],none,[12]⟩,fm 14 13,eT 15])
 (.block 0 (.loop Mq)))
 (.seq (.ar [x_ 6,⟨none,.st 1 (.t 6) (.c (.int .i64 4096)),none,[6]⟩])
 (.seq (.ar [aj 25 3,b' 26 1,⟨some 27,.call 60 [(.t 25),(.t 26),(.t 6)],none,[25,26,6]⟩,⟨none,.st 4 (.t 2) (.t 27),none,[2,27]⟩])
 (.ret))))))
theorem XA:b9 Tryz.prog Tryz.f29.ntmps (Tryz.f29.body.getD .skip)=FM:=by kernel_rfl
theorem XB:cE Tryz.prog Tryz.f29.ntmps Tryz.f29.results.toList=[.hH 2 4]:=by kernel_rfl
theorem Xz {args:List V} {h:af} {K:V→af→Prop} (ai:Nat.ble args.length 28=true) (H:b7 Tryz.prog FM (aR.a1 args) h fun e r aa=>e.ends∧∃ad,cu r aa [.hH 2 4]=some ad∧K (oneOf ad) aa):bB Tryz.prog 29 args h K:=
 c' follows cU Tryz.func29 (c:=Tryz.f29.body.getD .skip) (by kernel_rfl) (by kernel_rfl) (by kernel_rfl) ai XA XB (by kernel_rfl) H
def FO:bx:=
 .skip
def FP:bx:=
 .block 1 (.ar [br 8 3,ep 9 8,⟨none,.st 1 (.t 3) (.t 9),none,[3,9]⟩])
def FN:bx:=
 .seq (.ar [eK 1 0,eT 2])
 (.seq (.ar [x_ 3,⟨none,.st 1 (.t 3) (.c (.int .i64 0)),none,[3]⟩])
 (.seq (.seq (.ar [b' 4 1,⟨some 5,.call 56 [(.t 4)],none,[4]⟩])
 (.block 0 (bx.range (.t 5) [6,7] 11 FO FP)))
 (.seq (.ar [br 10 3,aj 2 10])
 (.ret))))
theorem XD:b9 Tryz.prog Tryz.f30.ntmps (Tryz.f30.body.getD .skip)=FN:=by kernel_rfl
theorem XE:cE Tryz.prog Tryz.f30.ntmps Tryz.f30.results.toList=[.t 2]:=by kernel_rfl
theorem XC {args:List V} {h:af} {K:V→af→Prop} (ai:Nat.ble args.length 11=true) (H:b7 Tryz.prog FN (aR.a1 args) h fun e r aa=>e.ends∧∃ae,lo (r dY).list aa=some ae∧∃ad,cu r ae [.t 2]=some ad∧K (oneOf ad) ae):bB Tryz.prog 30 args h K:=
 GD follows cU Tryz.func30 (c:=Tryz.f30.body.getD .skip) (by kernel_rfl) (by kernel_rfl) (by kernel_rfl) ai XD XE H
def Mr:bx:=
 .seq (.seq (.ar [aj 5 4,d' 6 1,br 7 6,fm 8 7,gl 9 5 8])
 (.cond (.t 9)
 (.skip)
 (.exit 0)))
 (.seq (.block 1 (.ar [aj 12 3,d' 13 1,br 14 13,aj 15 4,hD 16 14 15,b' 17 16,⟨some 18,.call 31 [(.t 17)],none,[17]⟩,AY 19 12 18,aj 3 19]))
 (.ar [aj 10 4,ep 11 10,aj 4 11]))
def FQ:bx:=
 .seq (.ar [eK 1 0,eT 2])
 (.seq (.ar [⟨some 3,.fH (.c (.int .i64 1)),none,[]⟩])
 (.seq (.seq (.ar [eT 4])
 (.block 0 (.loop Mr)))
 (.seq (.ar [aj 20 3,aj 2 20])
 (.ret))))
theorem XG:b9 Tryz.prog Tryz.f31.ntmps (Tryz.f31.body.getD .skip)=FQ:=by kernel_rfl
theorem XH:cE Tryz.prog Tryz.f31.ntmps Tryz.f31.results.toList=[.t 2]:=by kernel_rfl
theorem XF {args:List V} {h:af} {K:V→af→Prop} (ai:Nat.ble args.length 21=true) (H:b7 Tryz.prog FQ (aR.a1 args) h fun e r aa=>e.ends∧∃ad,cu r aa [.t 2]=some ad∧K (oneOf ad) aa):bB Tryz.prog 31 args h K:=
 c' follows cU Tryz.func31 (c:=Tryz.f31.body.getD .skip) (by kernel_rfl) (by kernel_rfl) (by kernel_rfl) ai XG XH (by kernel_rfl) H
def Ms:bx:=
 .seq (.seq (.ar [aj 34 5,d' 35 2,br 36 35,fm 37 36,gl 38 34 37])
 (.cond (.t 38)
 (.skip)
 (.exit 0)))
 (.seq (.block 1 (.seq (.draw [d' 41 2,br 42 41,aj 43 5,hD 44 42 43,b' 45 44,d' 46 3,br 47 46,aj 48 5,hD 49 47 48,b' 50 49,⟨some 51,.call 32 [(.t 45),(.t 50)],none,[45,50]⟩,nW 52 51] [(1,[10]),(4,[10]),(6,[10]),(9,[10])])
 (.cond (.t 52)
 (.seq (.ar [dE 4])
 (.ret))
 (.skip))))
 (.ar [aj 39 5,ep 40 39,aj 5 40]))
def FR:bx:=
 .seq (.ar [eK 2 0,eK 3 1,dE 4])
 (.seq (.seq (.ar [f_ 6 2,br 7 6,f_ 8 3,br 9 8,x' 10 7 9,aj 11 10,⟨some 12,.il 1 (.t 2),(some (11,false)),[2,11]⟩,kp 13 12 11,⟨some 14,.il 1 (.t 3),(some (11,false)),[3,11]⟩,kp 15 14 11,Ej 16 13 15 11,gw 17 11 16,aj 18 17,tk 19 2 18,kp 20 19 18,tk 21 3 18,kp 22 21 18,⟨some 23,.bin (.str .neq) (.t 20) (.t 22),(some (18,false)),[20,22,18]⟩,gw 24 18 23,aj 25 24,ya 26 2 25,kp 27 26 25,yb 28 27 25,ya 29 3 25,kp 30 29 25,yb 31 30 25,Ej 32 28 31 25,gw 33 25 32])
 (.cond (.t 33)
 (.seq (.ar [dE 4])
 (.ret))
 (.skip)))
 (.seq (.seq (.ar [eT 5])
 (.block 0 (.loop Ms)))
 (.seq (.ar [mQ 4])
 (.ret))))
theorem XJ:b9 Tryz.prog Tryz.f32.ntmps (Tryz.f32.body.getD .skip)=FR:=by kernel_rfl
theorem XK:cE Tryz.prog Tryz.f32.ntmps Tryz.f32.results.toList=[.t 4]:=by kernel_rfl
theorem XI {args:List V} {h:af} {K:V→af→Prop} (ai:Nat.ble args.length 53=true) (H:b7 Tryz.prog FR (aR.a1 args) h fun e r aa=>e.ends∧∃ad,cu r aa [.t 4]=some ad∧K (oneOf ad) aa):bB Tryz.prog 32 args h K:=
 c' follows cU Tryz.func32 (c:=Tryz.f32.body.getD .skip) (by kernel_rfl) (by kernel_rfl) (by kernel_rfl) ai XJ XK (by kernel_rfl) H
def Mt:bx:=
 .seq (.seq (.ar [aj 11 5,aj 12 0,fm 13 12,gl 14 11 13])
 (.cond (.t 14)
 (.skip)
 (.exit 0)))
 (.seq (.block 1 (.seq (.draw [aj 17 0,aj 18 5,rI 19 17 18,br 20 19,aj 21 1,aj 22 5,rI 23 21 22,br 24 23,x' 25 20 24] [])
 (.cond (.t 25)
 (.seq (.ar [dE 4])
 (.ret))
 (.skip))))
 (.ar [aj 15 5,ep 16 15,aj 5 16]))
def FT:bx:=
 .seq (.ar [dE 4])
 (.seq (.seq (.ar [aj 6 0,fm 7 6,aj 8 1,fm 9 8,x' 10 7 9])
 (.cond (.t 10)
 (.seq (.ar [dE 4])
 (.ret))
 (.skip)))
 (.seq (.seq (.ar [eT 5])
 (.block 0 (.loop Mt)))
 (.seq (.ar [mQ 4])
 (.ret))))
theorem XM:b9 Tryz.prog Tryz.f33.ntmps (Tryz.f33.body.getD .skip)=FT:=by kernel_rfl
theorem XN:cE Tryz.prog Tryz.f33.ntmps Tryz.f33.results.toList=[.t 4]:=by kernel_rfl
theorem XL {args:List V} {h:af} {K:V→af→Prop} (ai:Nat.ble args.length 26=true) (H:b7 Tryz.prog FT (aR.a1 args) h fun e r aa=>e.ends∧∃ad,cu r aa [.t 4]=some ad∧K (oneOf ad) aa):bB Tryz.prog 33 args h K:=
 c' follows cU Tryz.func33 (c:=Tryz.f33.body.getD .skip) (by kernel_rfl) (by kernel_rfl) (by kernel_rfl) ai XM XN (by kernel_rfl) H
def FU:bx:=
 .ar [gD 6,⟨none,.st 4 (.t 6) (.t 11),none,[6,11]⟩]
def FV:bx:=
 .block 1 (.seq (.ar [f_ 12 6,br 13 12,mS 14 13,aj 15 14,eL 16 4 15,nX 17 6 15,eL 18 17 15,⟨some 19,.look .int (.bool false) false (.t 16) (.t 18),(some (15,true)),[16,18,15]⟩,AZ 20 19 15,dp 21 15 20])
 (.cond (.t 21)
 (.seq (.ar [br 22 4,dy 23 6,br 24 23,⟨none,.l' .int (.t 22) (.t 24) (.c (.bool true)),none,[22,24]⟩])
 (.ar [br 25 3,dy 26 6,br 27 26,⟨some 28,.hG 1 1 [(.int .i64 0)] [(0,1,(.t 27))],none,[27]⟩,yc 29 25 28,⟨none,.st 1 (.t 3) (.t 29),none,[3,29]⟩]))
 (.skip)))
def c34:bx:=
 .seq (.ar [eK 1 0,iJ 2])
 (.seq (.ar [⟨some 3,.new [.b6],none,[]⟩])
 (.seq (.ar [⟨some 7,.sw none,none,[]⟩,⟨some 4,.new [.jL],none,[]⟩,⟨none,.st 1 (.t 4) (.t 7),none,[4,7]⟩])
 (.seq (.seq (.ar [b' 8 1,⟨some 9,.call 56 [(.t 8)],none,[8]⟩])
 (.block 0 (bx.range (.t 9) [10,11] 31 FU FV)))
 (.seq (.ar [br 30 3,aj 2 30])
 (.ret)))))
theorem XP:b9 Tryz.prog Tryz.f34.ntmps (Tryz.f34.body.getD .skip)=c34:=by kernel_rfl
theorem XQ:cE Tryz.prog Tryz.f34.ntmps Tryz.f34.results.toList=[.t 2]:=by kernel_rfl
theorem XO {args:List V} {h:af} {K:V→af→Prop} (ai:Nat.ble args.length 31=true) (H:b7 Tryz.prog c34 (aR.a1 args) h fun e r aa=>e.ends∧∃ae,lo (r dY).list aa=some ae∧∃ad,cu r ae [.t 2]=some ad∧K (oneOf ad) ae):bB Tryz.prog 34 args h K:=
 GD follows cU Tryz.func34 (c:=Tryz.f34.body.getD .skip) (by kernel_rfl) (by kernel_rfl) (by kernel_rfl) ai XP XQ H
def FW:bx:=
 .seq (.ar [eK 1 0,iJ 2])
 (.seq (.ar [b' 3 1,⟨some 4,.call 67 [(.t 3),(.c .b6)],none,[3]⟩,aj 2 4])
 (.ret))
theorem XS:b9 Tryz.prog Tryz.f35.ntmps (Tryz.f35.body.getD .skip)=FW:=by kernel_rfl
theorem XT:cE Tryz.prog Tryz.f35.ntmps Tryz.f35.results.toList=[.t 2]:=by kernel_rfl
theorem XR {args:List V} {h:af} {K:V→af→Prop} (ai:Nat.ble args.length 5=true) (H:b7 Tryz.prog FW (aR.a1 args) h fun e r aa=>e.ends∧∃ad,cu r aa [.t 2]=some ad∧K (oneOf ad) aa):bB Tryz.prog 35 args h K:=
 c' follows cU Tryz.func35 (c:=Tryz.f35.body.getD .skip) (by kernel_rfl) (by kernel_rfl) (by kernel_rfl) ai XS XT (by kernel_rfl) H
def FX:bx:=
 .seq (.ar [eK 1 0,nZ 2])
 (.seq (.seq (.ar [b' 5 1,⟨some 6,.call 19 [(.t 5)],none,[5]⟩,tj 7 6])
 (.cond (.t 7)
 (.seq (.ar [nZ 2])
 (.ret))
 (.skip)))
 (.seq (.ar [⟨some 3,.new [.iW],none,[]⟩])
 (.seq (.ar [⟨some 8,.fn 68 [(.t 3)],none,[3]⟩,⟨some 4,.new [.iW],none,[]⟩,⟨none,.st 1 (.t 4) (.t 8),none,[4,8]⟩])
 (.seq (.ar [⟨some 9,.fn 70 [(.t 4),(.t 3)],none,[4,3]⟩,⟨none,.st 1 (.t 3) (.t 9),none,[3,9]⟩])
 (.seq (.ar [br 10 3,b' 11 1,A0 12 10 11,aj 2 12])
 (.ret))))))
theorem XV:b9 Tryz.prog Tryz.f36.ntmps (Tryz.f36.body.getD .skip)=FX:=by kernel_rfl
theorem XW:cE Tryz.prog Tryz.f36.ntmps Tryz.f36.results.toList=[.t 2]:=by kernel_rfl
theorem XU {args:List V} {h:af} {K:V→af→Prop} (ai:Nat.ble args.length 13=true) (H:b7 Tryz.prog FX (aR.a1 args) h fun e r aa=>e.ends∧∃ad,cu r aa [.t 2]=some ad∧K (oneOf ad) aa):bB Tryz.prog 36 args h K:=
 c' follows cU Tryz.func36 (c:=Tryz.f36.body.getD .skip) (by kernel_rfl) (by kernel_rfl) (by kernel_rfl) ai XV XW (by kernel_rfl) H
def FY:bx:=
 .seq (.ar [eK 1 0,nZ 2])
 (.seq (.seq (.ar [b' 3 1,⟨some 4,.call 20 [(.t 3)],none,[3]⟩,tj 5 4])
 (.cond (.t 5)
 (.seq (.ar [nZ 2])
 (.ret))
 (.skip)))
 (.seq (.ar [b' 6 1,yd 7 6,aj 2 7])
 (.ret)))
theorem XY:b9 Tryz.prog Tryz.f37.ntmps (Tryz.f37.body.getD .skip)=FY:=by kernel_rfl
theorem XZ:cE Tryz.prog Tryz.f37.ntmps Tryz.f37.results.toList=[.t 2]:=by kernel_rfl
theorem XX {args:List V} {h:af} {K:V→af→Prop} (ai:Nat.ble args.length 8=true) (H:b7 Tryz.prog FY (aR.a1 args) h fun e r aa=>e.ends∧∃ad,cu r aa [.t 2]=some ad∧K (oneOf ad) aa):bB Tryz.prog 37 args h K:=
 c' follows cU Tryz.func37 (c:=Tryz.f37.body.getD .skip) (by kernel_rfl) (by kernel_rfl) (by kernel_rfl) ai XY XZ (by kernel_rfl) H
def FZ:bx:=
 .seq (.ar [eK 2 0,eK 3 1,dE 4])
 (.seq (.seq (.ar [b' 7 2,⟨some 8,.call 20 [(.t 7)],none,[7]⟩,tj 9 8,aj 10 9,AX 11 3 10,⟨some 12,.call 20 [(.t 11)],(some (10,false)),[11,10]⟩,Eh 13 12 10,gw 14 10 13])
 (.cond (.t 14)
 (.seq (.ar [dE 4])
 (.ret))
 (.skip)))
 (.seq (.ar [b' 16 2,b' 17 3,⟨some 18,.call 74 [(.t 16),(.t 17),(.c .b6)],none,[16,17]⟩,aj 15 18,j0 19 15,j1 20 15,aj 5 19,aj 6 20])
 (.seq (.ar [aj 21 6,aj 4 21])
 (.ret))))
theorem X1:b9 Tryz.prog Tryz.f38.ntmps (Tryz.f38.body.getD .skip)=FZ:=by kernel_rfl
theorem X2:cE Tryz.prog Tryz.f38.ntmps Tryz.f38.results.toList=[.t 4]:=by kernel_rfl
theorem X0 {args:List V} {h:af} {K:V→af→Prop} (ai:Nat.ble args.length 22=true) (H:b7 Tryz.prog FZ (aR.a1 args) h fun e r aa=>e.ends∧∃ad,cu r aa [.t 4]=some ad∧K (oneOf ad) aa):bB Tryz.prog 38 args h K:=
 c' follows cU Tryz.func38 (c:=Tryz.f38.body.getD .skip) (by kernel_rfl) (by kernel_rfl) (by kernel_rfl) ai X1 X2 (by kernel_rfl) H
def Mu:bx:=
 .seq (.seq (.ar [aj 12 5,aj 13 3,fm 14 13,gl 15 12 14])
 (.cond (.t 15)
 (.skip)
 (.exit 0)))
 (.seq (.block 1 (.ar [aj 18 4,aj 19 3,aj 20 5,rI 21 19 20,br 22 21,aj 23 5,x8 24 23,La 25 22 24,Lb 26 25,⟨some 27,.app 5 (.t 18) (.t 26),none,[18,26]⟩,aj 4 27]))
 (.ar [aj 16 5,ep 17 16,aj 5 17]))
def F0:bx:=
 .seq (.ar [eK 1 0,gD 2])
 (.seq (.seq (.ar [b' 6 1,⟨some 7,.call 20 [(.t 6)],none,[6]⟩,tj 8 7])
 (.cond (.t 8)
 (.seq (.ar [Ei 9,⟨none,.st 4 (.t 2) (.t 9),none,[2,9]⟩])
 (.ret))
 (.skip)))
 (.seq (.ar [b' 10 1,⟨some 11,.call 35 [(.t 10)],none,[10]⟩,aj 3 11])
 (.seq (.ar [iJ 4])
 (.seq (.seq (.ar [eT 5])
 (.block 0 (.loop Mu)))
 (.seq (.ar [aj 28 4,b' 29 1,⟨some 30,.call 64 [(.t 28),(.t 29)],none,[28,29]⟩,⟨none,.st 4 (.t 2) (.t 30),none,[2,30]⟩])
 (.ret))))))
theorem X4:b9 Tryz.prog Tryz.f39.ntmps (Tryz.f39.body.getD .skip)=F0:=by kernel_rfl
theorem X5:cE Tryz.prog Tryz.f39.ntmps Tryz.f39.results.toList=[.hH 2 4]:=by kernel_rfl
theorem X3 {args:List V} {h:af} {K:V→af→Prop} (ai:Nat.ble args.length 31=true) (H:b7 Tryz.prog F0 (aR.a1 args) h fun e r aa=>e.ends∧∃ad,cu r aa [.hH 2 4]=some ad∧K (oneOf ad) aa):bB Tryz.prog 39 args h K:=
 c' follows cU Tryz.func39 (c:=Tryz.f39.body.getD .skip) (by kernel_rfl) (by kernel_rfl) (by kernel_rfl) ai X4 X5 (by kernel_rfl) H
def Mv:bx:=
 .seq (.seq (.ar [aj 7 6,aj 8 0,fm 9 8,gl 10 7 9,aj 11 10,ed 12 5 11,ed 13 1 11,⟨some 14,.bin (.int .leq) (.t 12) (.t 13),(some (11,true)),[12,13,11]⟩,dp 15 11 14])
 (.cond (.t 15)
 (.skip)
 (.exit 0)))
 (.seq (.block 1 (.seq (.ar [aj 18 5,ep 19 18,aj 20 0,aj 21 6,hD 22 20 21,gN 23 22,br 24 23,lD 25 24,⟨some 26,.bin (.int .quo) (.t 25) (.c (.int .i64 100)),none,[25]⟩,AY 27 19 26,aj 5 27])
 (.ar [aj 28 5,aj 29 0,aj 30 6,hD 31 29 30,d' 32 31,br 33 32,aj 34 1,aj 35 5,⟨some 36,.bin (.int .sub) (.t 34) (.t 35),none,[34,35]⟩,⟨some 37,.call 46 [(.t 33),(.t 36)],none,[33,36]⟩,AY 38 28 37,aj 5 38])))
 (.ar [aj 16 6,ep 17 16,aj 6 17]))
def F1:bx:=
 .seq (.ar [eT 4])
 (.seq (.ar [eT 5])
 (.seq (.seq (.ar [eT 6])
 (.block 0 (.loop Mv)))
 (.seq (.ar [aj 39 5,aj 4 39])
 (.ret))))
theorem X7:b9 Tryz.prog Tryz.f46.ntmps (Tryz.f46.body.getD .skip)=F1:=by kernel_rfl
theorem X8:cE Tryz.prog Tryz.f46.ntmps Tryz.f46.results.toList=[.t 4]:=by kernel_rfl
theorem X6 {args:List V} {h:af} {K:V→af→Prop} (ai:Nat.ble args.length 40=true) (H:b7 Tryz.prog F1 (aR.a1 args) h fun e r aa=>e.ends∧∃ad,cu r aa [.t 4]=some ad∧K (oneOf ad) aa):bB Tryz.prog 46 args h K:=
 c' follows cU Tryz.func46 (c:=Tryz.f46.body.getD .skip) (by kernel_rfl) (by kernel_rfl) (by kernel_rfl) ai X7 X8 (by kernel_rfl) H
def F3:bx:=
 .seq (.ar [eK 1 0,⟨some 2,.fH (.c .iW),none,[]⟩])
 (.seq (.ar [⟨some 3,.fn 86 [(.t 1)],none,[1]⟩,aj 2 3])
 (.ret))
theorem Ya:b9 Tryz.prog Tryz.f56.ntmps (Tryz.f56.body.getD .skip)=F3:=by kernel_rfl
theorem Yb:cE Tryz.prog Tryz.f56.ntmps Tryz.f56.results.toList=[.t 2]:=by kernel_rfl
theorem X_ {args:List V} {h:af} {K:V→af→Prop} (ai:Nat.ble args.length 4=true) (H:b7 Tryz.prog F3 (aR.a1 args) h fun e r aa=>e.ends∧∃ad,cu r aa [.t 2]=some ad∧K (oneOf ad) aa):bB Tryz.prog 56 args h K:=
 c' follows cU Tryz.func56 (c:=Tryz.f56.body.getD .skip) (by kernel_rfl) (by kernel_rfl) (by kernel_rfl) ai Ya Yb (by kernel_rfl) H
def F4:bx:=
 .seq (.ar [eK 1 0,dE 2])
 (.seq (.seq (.ar [f_ 3 1,br 4 3])
 (.block 0 (.seq (.ar [mS 6 4,aj 5 6])
 (.cond (.t 5)
 (.seq (.ar [dy 7 1,br 8 7,ye 9 8,aj 10 9,nX 11 1 10,eL 12 11 10,⟨some 13,.bin (.int .leq) (.t 12) (.c (.int .i64 1048575)),(some (10,true)),[12,10]⟩,dp 14 10 13,aj 15 14,nY 16 1 15,eL 17 16 15,⟨some 18,.bin (.str .eql) (.t 17) (.c (.str [])),(some (15,true)),[17,15]⟩,dp 19 15 18,aj 20 19,mR 21 1 20,eL 22 21 20,vo 23 22 20,Ee 24 23 20,dp 25 20 24,aj 2 25])
 (.ret))
 (.seq (.ar [⟨some 27,.bin (.int .eql) (.t 4) (.c (.int .i64 2)),none,[4]⟩,aj 26 27])
 (.cond (.t 26)
 (.seq (.seq (.ar [gN 28 1,br 29 28,A1 30 29,aj 31 30,tk 32 1 31,kp 33 32 31,⟨some 34,.bin (.str .eql) (.t 33) (.c (.str [42])),(some (31,false)),[33,31]⟩,gw 35 31 34])
 (.cond (.t 35)
 (.seq (.ar [dy 36 1,br 37 36,tl 38 37,aj 39 38,mR 40 1 39,eL 41 40 39,vo 42 41 39,⟨some 43,.bin (.int .eql) (.t 42) (.c (.int .i64 2)),(some (39,true)),[42,39]⟩,dp 44 39 43,aj 2 44])
 (.ret))
 (.skip)))
 (.seq (.ar [dy 45 1,br 46 45,tl 47 46,aj 48 47,mR 49 1 48,eL 50 49 48,vo 51 50 48,⟨some 52,.bin (.int .leq) (.t 51) (.c (.int .i64 64)),(some (48,true)),[51,48]⟩,dp 53 48 52,aj 54 53,nY 55 1 54,eL 56 55 54,⟨some 57,.call 88 [(.t 56)],(some (54,true)),[56,54]⟩,dp 58 54 57,aj 2 58])
 (.ret)))
 (.skip)))))))
 (.seq (.ar [dE 2])
 (.ret)))
theorem Yd:b9 Tryz.prog Tryz.f57.ntmps (Tryz.f57.body.getD .skip)=F4:=by kernel_rfl
theorem Ye:cE Tryz.prog Tryz.f57.ntmps Tryz.f57.results.toList=[.t 2]:=by kernel_rfl
theorem Yc {args:List V} {h:af} {K:V→af→Prop} (ai:Nat.ble args.length 59=true) (H:b7 Tryz.prog F4 (aR.a1 args) h fun e r aa=>e.ends∧∃ad,cu r aa [.t 2]=some ad∧K (oneOf ad) aa):bB Tryz.prog 57 args h K:=
 c' follows cU Tryz.func57 (c:=Tryz.f57.body.getD .skip) (by kernel_rfl) (by kernel_rfl) (by kernel_rfl) ai Yd Ye (by kernel_rfl) H
def F6:bx:=
 .seq (.seq (.ar [aj 68 4,d' 69 1,br 70 69,fm 71 70,gl 72 68 71])
 (.cond (.t 72)
 (.skip)
 (.exit 0)))
 (.seq (.block 1 (.seq (.ar [d' 75 1,br 76 75,aj 77 4,hD 78 76 77,b' 79 78,⟨some 80,.call 58 [(.t 79)],none,[79]⟩,nW 81 80])
 (.cond (.t 81)
 (.seq (.ar [dE 2])
 (.ret))
 (.skip))))
 (.ar [aj 73 4,ep 74 73,aj 4 74]))
def F5:bx:=
 .seq (.ar [eK 1 0,dE 2])
 (.seq (.seq (.ar [f_ 5 1,br 6 5,mS 7 6])
 (.cond (.t 7)
 (.seq (.ar [dy 8 1,br 9 8,ye 10 9,aj 11 10,nX 12 1 11,eL 13 12 11,⟨some 14,.bin (.int .leq) (.t 13) (.c (.int .i64 1048575)),(some (11,true)),[13,11]⟩,dp 15 11 14,aj 16 15,nY 17 1 16,eL 18 17 16,⟨some 19,.bin (.str .eql) (.t 18) (.c (.str [])),(some (16,true)),[18,16]⟩,dp 20 16 19,aj 21 20,mR 22 1 21,eL 23 22 21,vo 24 23 21,Ee 25 24 21,dp 26 21 25,aj 2 26])
 (.ret))
 (.skip)))
 (.seq (.ar [gN 27 1,br 28 27,A1 29 28,aj 30 29,tk 31 1 30,kp 32 31 30,⟨some 33,.bin (.str .eql) (.t 32) (.c (.str [42])),(some (30,false)),[32,30]⟩,gw 34 30 33,aj 3 34])
 (.seq (.seq (.ar [f_ 35 1,br 36 35,⟨some 37,.bin (.int .neq) (.t 36) (.c (.int .i64 2)),none,[36]⟩,aj 38 37,⟨some 39,.il 1 (.t 1),(some (38,false)),[1,38]⟩,kp 40 39 38,Eh 41 40 38,gw 42 38 41,aj 43 42,je 44 3 43,je 45 44 43,mR 46 1 45,eL 47 46 45,vo 48 47 45,⟨some 49,.bin (.int .neq) (.t 48) (.c (.int .i64 2)),(some (45,true)),[48,45]⟩,⟨some 50,.pick (.t 45) (.t 49) (.c (.bool false)),(some (43,false)),[45,49,43]⟩,gw 51 43 50,aj 52 51,je 53 3 52,⟨some 54,.un .not (.t 53),(some (52,false)),[53,52]⟩,je 55 54 52,nY 56 1 55,eL 57 56 55,⟨some 58,.call 89 [(.c (.int .i64 3)),(.t 57)],(some (55,true)),[57,55]⟩,AZ 59 58 55,ed 60 59 55,ya 61 1 60,kp 62 61 60,yb 63 62 60,⟨some 64,.bin (.int .gtr) (.t 63) (.c (.int .i64 64)),(some (60,false)),[63,60]⟩,⟨some 65,.pick (.t 60) (.c (.bool true)) (.t 64),(some (55,true)),[60,64,55]⟩,⟨some 66,.pick (.t 55) (.t 65) (.c (.bool false)),(some (52,false)),[55,65,52]⟩,gw 67 52 66])
 (.cond (.t 67)
 (.seq (.ar [dE 2])
 (.ret))
 (.skip)))
 (.seq (.seq (.ar [eT 4])
 (.block 0 (.loop F6)))
 (.seq (.ar [mQ 2])
 (.ret))))))
theorem Yg:b9 Tryz.prog Tryz.f58.ntmps (Tryz.f58.body.getD .skip)=F5:=by kernel_rfl
theorem Yh:cE Tryz.prog Tryz.f58.ntmps Tryz.f58.results.toList=[.t 2]:=by kernel_rfl
theorem Yf {args:List V} {h:af} {K:V→af→Prop} (ai:Nat.ble args.length 82=true) (H:b7 Tryz.prog F5 (aR.a1 args) h fun e r aa=>e.ends∧∃ad,cu r aa [.t 2]=some ad∧K (oneOf ad) aa):bB Tryz.prog 58 args h K:=
 c' follows cU Tryz.func58 (c:=Tryz.f58.body.getD .skip) (by kernel_rfl) (by kernel_rfl) (by kernel_rfl) ai Yg Yh (by kernel_rfl) H
def Mw:bx:=
 .seq (.seq (.ar [aj 5 4,d' 6 1,br 7 6,fm 8 7,gl 9 5 8])
 (.cond (.t 9)
 (.skip)
 (.exit 0)))
 (.seq (.block 1 (.ar [aj 12 3,d' 13 1,br 14 13,aj 15 4,hD 16 14 15,b' 17 16,⟨some 18,.call 59 [(.t 17)],none,[17]⟩,⟨some 19,.dK [(.t 12),(.t 18)],none,[12,18]⟩,aj 3 19]))
 (.ar [aj 10 4,ep 11 10,aj 4 11]))
def F7:bx:=
 .seq (.ar [eK 1 0,eT 2])
 (.seq (.ar [eT 3])
 (.seq (.seq (.ar [eT 4])
 (.block 0 (.loop Mw)))
 (.seq (.ar [aj 20 3,ep 21 20,aj 2 21])
 (.ret))))
theorem Yj:b9 Tryz.prog Tryz.f59.ntmps (Tryz.f59.body.getD .skip)=F7:=by kernel_rfl
theorem Yk:cE Tryz.prog Tryz.f59.ntmps Tryz.f59.results.toList=[.t 2]:=by kernel_rfl
theorem Yi {args:List V} {h:af} {K:V→af→Prop} (ai:Nat.ble args.length 22=true) (H:b7 Tryz.prog F7 (aR.a1 args) h fun e r aa=>e.ends∧∃ad,cu r aa [.t 2]=some ad∧K (oneOf ad) aa):bB Tryz.prog 59 args h K:=
 c' follows cU Tryz.func59 (c:=Tryz.f59.body.getD .skip) (by kernel_rfl) (by kernel_rfl) (by kernel_rfl) ai Yj Yk (by kernel_rfl) H
def F9:bx:=
 .seq (.ar [gl 45 44 43])
 (.seq (.cond (.t 45)
 (.skip)
 (.exit 0))
 (.seq (.block 1 (.seq (.ar [hD 46 42 44,b' 47 46,gD 11,⟨none,.st 4 (.t 11) (.t 47),none,[11,47]⟩])
 (.seq (.seq (.ar [aj 48 2,dt 49 48,br 50 49,⟨some 51,.bin (.int .lss) (.t 50) (.c (.int .i64 0)),none,[50]⟩])
 (.cond (.t 51)
 (.exit 0)
 (.skip)))
 (.draw [d' 52 4,br 53 52,aj 54 0,b' 55 11,aj 56 2,⟨some 57,.call 60 [(.t 54),(.t 55),(.t 56)],none,[54,55,56]⟩,o6 58 57,th 59 53 58,d' 60 4,⟨none,.st 1 (.t 60) (.t 59),none,[60,59]⟩] [(1,[5,7]),(3,[5])]))))
 (.ar [ep 61 44,aj 44 61])))
def F8:bx:=
 .seq (.ar [eK 4 1,gD 6])
 (.seq (.seq (.ar [aj 13 0,dy 14 4,br 15 14,Lc 16 13 15,aj 12 16,j0 17 12,j1 18 12,gD 7,⟨none,.st 4 (.t 7) (.t 17),none,[7,17]⟩,aj 8 18])
 (.seq (.ar [aj 19 8,aj 20 19,vp 21 4 20,eL 22 21 20,⟨some 23,.bin (.int .eql) (.t 22) (.c (.int .i64 1)),(some (20,true)),[22,20]⟩,dp 24 20 23])
 (.cond (.t 24)
 (.seq (.draw [aj 25 2,dt 26 25,br 27 26,b' 28 7,⟨some 29,.call 30 [(.t 28)],none,[28]⟩,⟨some 30,.bin (.int .sub) (.t 27) (.t 29),none,[27,29]⟩,dt 31 25,⟨none,.st 1 (.t 31) (.t 30),none,[31,30]⟩] [(2,[4,7]),(3,[4])])
 (.seq (.ar [b' 32 7,⟨some 33,.call 90 [(.t 32)],none,[32]⟩,⟨none,.st 4 (.t 6) (.t 33),none,[6,33]⟩])
 (.ret)))
 (.skip))))
 (.seq (.ar [aj 34 2,dt 35 34,br 36 35,⟨some 37,.bin (.int .sub) (.t 36) (.c (.int .i64 1)),none,[36]⟩,dt 38 34,⟨none,.st 1 (.t 38) (.t 37),none,[38,37]⟩])
 (.seq (.ar [d' 39 4,br 40 39,aj 9 40])
 (.seq (.ar [d' 41 4,⟨none,.st 1 (.t 41) (.c .b6),none,[41]⟩])
 (.seq (.seq (.ar [aj 42 9,fm 43 42,eT 44])
 (.block 0 (.loop F9)))
 (.seq (.ar [b' 62 4,⟨none,.st 4 (.t 6) (.t 62),none,[6,62]⟩])
 (.ret)))))))
theorem Ym:b9 Tryz.prog Tryz.f60.ntmps (Tryz.f60.body.getD .skip)=F8:=by kernel_rfl
theorem Yn:cE Tryz.prog Tryz.f60.ntmps Tryz.f60.results.toList=[.hH 6 4]:=by kernel_rfl
theorem Yl {args:List V} {h:af} {K:V→af→Prop} (ai:Nat.ble args.length 63=true) (H:b7 Tryz.prog F8 (aR.a1 args) h fun e r aa=>e.ends∧∃ad,cu r aa [.hH 6 4]=some ad∧K (oneOf ad) aa):bB Tryz.prog 60 args h K:=
 c' follows cU Tryz.func60 (c:=Tryz.f60.body.getD .skip) (by kernel_rfl) (by kernel_rfl) (by kernel_rfl) ai Ym Yn (by kernel_rfl) H
def Mx:bx:=
 .seq (.seq (.ar [aj 30 8,d' 31 3,br 32 31,fm 33 32,gl 34 30 33])
 (.cond (.t 34)
 (.skip)
 (.exit 0)))
 (.seq (.block 1 (.seq (.ar [aj 37 0,d' 38 3,br 39 38,aj 40 8,hD 41 39 40,b' 42 41,⟨some 43,.call 64 [(.t 37),(.t 42)],none,[37,42]⟩,gD 9,⟨none,.st 4 (.t 9) (.t 43),none,[9,43]⟩])
 (.ar [d' 44 7,br 45 44,b' 46 9,o6 47 46,th 48 45 47,d' 49 7,⟨none,.st 1 (.t 49) (.t 48),none,[49,48]⟩])))
 (.ar [aj 35 8,ep 36 35,aj 8 36]))
def F':bx:=
 .seq (.ar [eK 3 1,gD 4])
 (.seq (.seq (.ar [f_ 10 3,br 11 10,mS 12 11])
 (.cond (.t 12)
 (.seq (.ar [aj 14 0,dy 15 3,br 16 15,⟨some 17,.call 91 [(.t 14),(.t 16)],none,[14,16]⟩,aj 13 17,j0 18 13,j1 19 13,gD 5,⟨none,.st 4 (.t 5) (.t 18),none,[5,18]⟩,aj 6 19])
 (.seq (.seq (.ar [aj 20 6])
 (.cond (.t 20)
 (.seq (.ar [b' 21 5,⟨none,.st 4 (.t 4) (.t 21),none,[4,21]⟩])
 (.ret))
 (.skip)))
 (.seq (.ar [b' 22 3,⟨none,.st 4 (.t 4) (.t 22),none,[4,22]⟩])
 (.ret))))
 (.skip)))
 (.seq (.ar [f_ 23 3,br 24 23,dy 25 3,br 26 25,gN 27 3,br 28 27,⟨some 29,.build [(.int .i64 0),(.int .i64 0),(.str []),.b6] [(0,1,(.t 24)),(1,1,(.t 26)),(2,1,(.t 28))],none,[24,26,28]⟩,gD 7,⟨none,.st 4 (.t 7) (.t 29),none,[7,29]⟩])
 (.seq (.seq (.ar [eT 8])
 (.block 0 (.loop Mx)))
 (.seq (.ar [b' 50 7,⟨none,.st 4 (.t 4) (.t 50),none,[4,50]⟩])
 (.ret)))))
theorem Yp:b9 Tryz.prog Tryz.f64.ntmps (Tryz.f64.body.getD .skip)=F':=by kernel_rfl
theorem Yq:cE Tryz.prog Tryz.f64.ntmps Tryz.f64.results.toList=[.hH 4 4]:=by kernel_rfl
theorem Yo {args:List V} {h:af} {K:V→af→Prop} (ai:Nat.ble args.length 51=true) (H:b7 Tryz.prog F' (aR.a1 args) h fun e r aa=>e.ends∧∃ad,cu r aa [.hH 4 4]=some ad∧K (oneOf ad) aa):bB Tryz.prog 64 args h K:=
 c' follows cU Tryz.func64 (c:=Tryz.f64.body.getD .skip) (by kernel_rfl) (by kernel_rfl) (by kernel_rfl) ai Yp Yq (by kernel_rfl) H
def F_:bx:=
 .seq (.ar [eK 4 0,eK 5 1,dE 6])
 (.seq (.seq (.ar [f_ 9 4,br 10 9,mS 11 10])
 (.cond (.t 11)
 (.seq (.ar [br 13 2,dy 14 4,br 15 14,Lc 16 13 15,aj 12 16,j0 17 12,j1 18 12,gD 7,⟨none,.st 4 (.t 7) (.t 17),none,[7,17]⟩,aj 8 18])
 (.seq (.seq (.ar [aj 19 8,nW 20 19])
 (.cond (.t 20)
 (.seq (.ar [br 21 2,dy 22 4,br 23 22,b' 24 5,⟨none,.l' .int (.t 21) (.t 23) (.t 24),none,[21,23,24]⟩])
 (.seq (.ar [mQ 6])
 (.ret)))
 (.skip)))
 (.seq (.ar [b' 25 7,b' 26 5,⟨some 27,.call 28 [(.t 25),(.t 26)],none,[25,26]⟩,aj 6 27])
 (.ret))))
 (.skip)))
 (.seq (.ar [f_ 28 5,br 29 28,f_ 30 4,br 31 30,vn 32 29 31,aj 33 32,nY 34 4 33,eL 35 34 33,nY 36 5 33,eL 37 36 33,ti 38 35 37 33,dp 39 33 38,aj 40 39,mR 41 4 40,eL 42 41 40,mR 43 5 40,eL 44 43 40,eL 45 3 40,⟨some 46,.call 66 [(.t 42),(.t 44),(.t 45)],(some (40,true)),[42,44,45,40]⟩,dp 47 40 46,aj 6 47])
 (.ret)))
theorem Ys:b9 Tryz.prog Tryz.f65.ntmps (Tryz.f65.body.getD .skip)=F_:=by kernel_rfl
theorem Yt:cE Tryz.prog Tryz.f65.ntmps Tryz.f65.results.toList=[.t 6]:=by kernel_rfl
theorem Yr {args:List V} {h:af} {K:V→af→Prop} (ai:Nat.ble args.length 48=true) (H:b7 Tryz.prog F_ (aR.a1 args) h fun e r aa=>e.ends∧∃ad,cu r aa [.t 6]=some ad∧K (oneOf ad) aa):bB Tryz.prog 65 args h K:=
 c' follows cU Tryz.func65 (c:=Tryz.f65.body.getD .skip) (by kernel_rfl) (by kernel_rfl) (by kernel_rfl) ai Ys Yt (by kernel_rfl) H
def yJ:bx:=
 .seq (.ar [gl 18 17 16])
 (.seq (.cond (.t 18)
 (.skip)
 (.exit 0))
 (.seq (.block 1 (.seq (.ar [aj 19 17,hD 20 15 17,b' 21 20,gD 8,aj 7 19,⟨none,.st 4 (.t 8) (.t 21),none,[8,21]⟩])
 (.seq (.ar [aj 22 1,aj 23 7,hD 24 22 23,b' 25 24,gD 9,⟨none,.st 4 (.t 9) (.t 25),none,[9,25]⟩])
 (.seq (.ar [aj 26 2,b' 27 8,b' 28 9,rH 29 26 27 28,nW 30 29])
 (.cond (.t 30)
 (.seq (.ar [dE 6])
 (.ret))
 (.skip))))))
 (.ar [ep 31 17,aj 17 31])))
def vN:bx:=
 .seq (.ar [dE 6])
 (.seq (.seq (.ar [aj 10 0,fm 11 10,aj 12 1,fm 13 12,x' 14 11 13])
 (.cond (.t 14)
 (.seq (.ar [dE 6])
 (.ret))
 (.skip)))
 (.seq (.seq (.ar [aj 15 0,fm 16 15,eT 17])
 (.block 0 (.loop yJ)))
 (.seq (.ar [mQ 6])
 (.ret))))
theorem Yu:b9 Tryz.prog Tryz.f66.ntmps (Tryz.f66.body.getD .skip)=vN:=by kernel_rfl
theorem Yv:cE Tryz.prog Tryz.f66.ntmps Tryz.f66.results.toList=[.t 6]:=by kernel_rfl
theorem By {args:List V} {h:af} {K:V→af→Prop} (ai:Nat.ble args.length 32=true) (H:b7 Tryz.prog vN (aR.a1 args) h fun e r aa=>e.ends∧∃ad,cu r aa [.t 6]=some ad∧K (oneOf ad) aa):bB Tryz.prog 66 args h K:=
 c' follows cU Tryz.func66 (c:=Tryz.f66.body.getD .skip) (by kernel_rfl) (by kernel_rfl) (by kernel_rfl) ai Yu Yv (by kernel_rfl) H
def Gb:bx:=
 .seq (.seq (.ar [aj 21 5,d' 22 2,br 23 22,fm 24 23,gl 25 21 24])
 (.cond (.t 25)
 (.skip)
 (.exit 0)))
 (.seq (.block 1 (.ar [d' 28 2,br 29 28,aj 30 5,hD 31 29 30,b' 32 31,aj 33 1,⟨some 34,.call 67 [(.t 32),(.t 33)],none,[32,33]⟩,aj 1 34]))
 (.ar [aj 26 5,ep 27 26,aj 5 27]))
def Ga:bx:=
 .seq (.ar [eK 2 0,iJ 4])
 (.seq (.seq (.ar [f_ 6 2,br 7 6,mS 8 7,aj 9 8,ed 10 1 9,nX 11 2 9,eL 12 11 9,⟨some 13,.call 92 [(.t 10),(.t 12)],(some (9,true)),[10,12,9]⟩,AZ 14 13 9,dp 15 9 14])
 (.cond (.t 15)
 (.ar [aj 16 1,dy 17 2,br 18 17,⟨some 19,.hG 1 1 [(.int .i64 0)] [(0,1,(.t 18))],none,[18]⟩,yc 20 16 19,aj 1 20])
 (.skip)))
 (.seq (.seq (.ar [eT 5])
 (.block 0 (.loop Gb)))
 (.seq (.ar [aj 35 1,aj 4 35])
 (.ret))))
theorem Yx:b9 Tryz.prog Tryz.f67.ntmps (Tryz.f67.body.getD .skip)=Ga:=by kernel_rfl
theorem Yy:cE Tryz.prog Tryz.f67.ntmps Tryz.f67.results.toList=[.t 4]:=by kernel_rfl
theorem Yw {args:List V} {h:af} {K:V→af→Prop} (ai:Nat.ble args.length 36=true) (H:b7 Tryz.prog Ga (aR.a1 args) h fun e r aa=>e.ends∧∃ad,cu r aa [.t 4]=some ad∧K (oneOf ad) aa):bB Tryz.prog 67 args h K:=
 c' follows cU Tryz.func67 (c:=Tryz.f67.body.getD .skip) (by kernel_rfl) (by kernel_rfl) (by kernel_rfl) ai Yx Yy (by kernel_rfl) H
def Gc:bx:=
 .seq (.ar [eK 3 0,nZ 5])
 (.seq (.ar [br 7 2,b' 8 3,A0 9 7 8,aj 6 9])
 (.seq (.seq (.ar [aj 10 1,gN 11 3,br 12 11,⟨some 13,.call 69 [(.t 10),(.t 12)],none,[10,12]⟩,aj 14 13,vp 15 3 14,eL 16 15 14,⟨some 17,.bin (.int .eql) (.t 16) (.c (.int .i64 2)),(some (14,true)),[16,14]⟩,dp 18 14 17])
 (.cond (.t 18)
 (.ar [aj 19 6,Ek 20 19,⟨some 21,.bin (.str .add) (.t 20) (.c (.str [41])),none,[20]⟩,aj 6 21])
 (.skip)))
 (.seq (.ar [aj 22 6,aj 5 22])
 (.ret))))
theorem YA:b9 Tryz.prog Tryz.f68.ntmps (Tryz.f68.body.getD .skip)=Gc:=by kernel_rfl
theorem YB:cE Tryz.prog Tryz.f68.ntmps Tryz.f68.results.toList=[.t 5]:=by kernel_rfl
theorem Yz {args:List V} {h:af} {K:V→af→Prop} (ai:Nat.ble args.length 23=true) (H:b7 Tryz.prog Gc (aR.a1 args) h fun e r aa=>e.ends∧∃ad,cu r aa [.t 5]=some ad∧K (oneOf ad) aa):bB Tryz.prog 68 args h K:=
 c' follows cU Tryz.func68 (c:=Tryz.f68.body.getD .skip) (by kernel_rfl) (by kernel_rfl) (by kernel_rfl) ai YA YB (by kernel_rfl) H
def Gd:bx:=
 .seq (.ar [dE 4])
 (.seq (.ar [aj 5 0,aj 6 1,⟨some 7,.call 93 [(.t 5),(.t 6)],none,[5,6]⟩,ye 8 7,aj 4 8])
 (.ret))
theorem YD:b9 Tryz.prog Tryz.f69.ntmps (Tryz.f69.body.getD .skip)=Gd:=by kernel_rfl
theorem YE:cE Tryz.prog Tryz.f69.ntmps Tryz.f69.results.toList=[.t 4]:=by kernel_rfl
theorem YC {args:List V} {h:af} {K:V→af→Prop} (ai:Nat.ble args.length 9=true) (H:b7 Tryz.prog Gd (aR.a1 args) h fun e r aa=>e.ends∧∃ad,cu r aa [.t 4]=some ad∧K (oneOf ad) aa):bB Tryz.prog 69 args h K:=
 c' follows cU Tryz.func69 (c:=Tryz.f69.body.getD .skip) (by kernel_rfl) (by kernel_rfl) (by kernel_rfl) ai YD YE (by kernel_rfl) H
def My:bx:=
 .seq (.ar [gl 96 95 94])
 (.seq (.cond (.t 96)
 (.skip)
 (.exit 1))
 (.seq (.block 2 (.seq (.ar [hD 97 93 95,b' 98 97,gD 8,⟨none,.st 4 (.t 8) (.t 98),none,[8,98]⟩])
 (.ar [aj 99 6,br 100 2,b' 101 8,A0 102 100 101,⟨some 103,.hG 1 1 [(.str [])] [(0,1,(.t 102))],none,[102]⟩,yc 104 99 103,aj 6 104])))
 (.ar [ep 105 95,aj 95 105])))
def Gf:bx:=
 .seq (.ar [eK 3 0,nZ 4])
 (.seq (.block 0 (.seq (.ar [f_ 10 3,br 11 10,mS 12 11,aj 9 12])
 (.cond (.t 9)
 (.seq (.ar [dy 13 3,br 14 13,⟨some 15,.bin (.int .rem) (.t 14) (.c (.int .i64 26)),none,[14]⟩,⟨some 16,.bin (.int .add) (.c (.int .i64 97)) (.t 15),none,[15]⟩,⟨some 17,.hW (.int .i32) (.t 16),none,[16]⟩,⟨some 18,.hW (.other 21 9) (.t 17),none,[17]⟩,⟨some 19,.bin (.str .add) (.c (.str [39])) (.t 18),none,[18]⟩,aj 5 19])
 (.seq (.seq (.ar [dy 20 3,br 21 20,⟨some 22,.bin (.int .geq) (.t 21) (.c (.int .i64 26)),none,[21]⟩])
 (.cond (.t 22)
 (.ar [aj 23 5,dy 24 3,br 25 24,⟨some 26,.bin (.int .quo) (.t 25) (.c (.int .i64 26)),none,[25]⟩,⟨some 27,.call 71 [(.t 26)],none,[26]⟩,mT 28 23 27,aj 5 28])
 (.skip)))
 (.seq (.ar [aj 29 5,aj 4 29])
 (.ret))))
 (.seq (.ar [gN 31 3,br 32 31,A1 33 32,aj 30 33])
 (.cond (.t 30)
 (.seq (.draw [br 34 1,d' 35 3,br 36 35,rG 37 36,b' 38 37,⟨some 39,.hG 1 1 [(.str [])] [(0,1,(.c (.str [45,62])))],none,[]⟩,br 42 2,d' 43 3,br 44 43,x9 45 44,b' 46 45,rH 40 34 38 39,⟨some 41,.bin (.str .add) (.t 40) (.c (.str [32,45,62,32])),none,[40]⟩,A0 47 42 46,mT 48 41 47,aj 4 48] [(0,[11]),(2,[11]),(4,[11]),(6,[11,13]),(8,[11,13]),(10,[11,13])])
 (.ret))
 (.seq (.ar [gN 50 3,br 51 50,⟨some 52,.bin (.str .eql) (.t 51) (.c (.str [42])),none,[51]⟩,aj 49 52])
 (.cond (.t 49)
 (.seq (.draw [br 53 1,d' 54 3,br 55 54,rG 56 55,b' 57 56,⟨some 58,.hG 2 1 [(.str [])] [(0,1,(.c (.str [45,62]))),(1,1,(.c (.str [42])))],none,[]⟩,br 61 1,d' 62 3,br 63 62,x9 64 63,b' 65 64,⟨some 66,.hG 1 1 [(.str [])] [(0,1,(.c (.str [45,62])))],none,[]⟩,rH 59 53 57 58,⟨some 60,.bin (.str .add) (.t 59) (.c (.str [32,42,32])),none,[59]⟩,rH 67 61 65 66,mT 68 60 67,aj 4 68] [(0,[12]),(2,[12]),(4,[12]),(6,[12,14]),(8,[12,14]),(10,[12,14])])
 (.ret))
 (.seq (.ar [d' 70 3,br 71 70,fm 72 71,tl 73 72,aj 69 73])
 (.cond (.t 69)
 (.seq (.ar [gN 74 3,br 75 74,aj 4 75])
 (.ret))
 (.seq (.ar [d' 77 3,br 78 77,fm 79 78,mS 80 79,aj 76 80])
 (.cond (.t 76)
 (.seq (.draw [br 81 1,d' 82 3,br 83 82,rG 84 83,b' 85 84,⟨some 86,.hG 2 1 [(.str [])] [(0,1,(.c (.str [45,62]))),(1,1,(.c (.str [42])))],none,[]⟩,gN 89 3,br 90 89,rH 87 81 85 86,⟨some 88,.bin (.str .add) (.t 87) (.c (.str [32])),none,[87]⟩,mT 91 88 90,aj 4 91] [(0,[8]),(2,[8]),(4,[8]),(7,[8,12])])
 (.ret))
 (.skip))))))))))))
 (.seq (.ar [iJ 6])
 (.seq (.seq (.ar [d' 92 3,br 93 92,fm 94 93,eT 95])
 (.block 1 (.loop My)))
 (.seq (.draw [aj 106 6,gN 110 3,br 111 110,⟨some 107,.call 72 [(.t 106),(.c (.str [44,32]))],none,[106]⟩,Ek 108 107,⟨some 109,.bin (.str .add) (.t 108) (.c (.str [41,32])),none,[108]⟩,mT 112 109 111,aj 4 112] [(2,[3,8])])
 (.ret)))))
theorem YG:b9 Tryz.prog Tryz.f70.ntmps (Tryz.f70.body.getD .skip)=Gf:=by kernel_rfl
theorem YH:cE Tryz.prog Tryz.f70.ntmps Tryz.f70.results.toList=[.t 4]:=by kernel_rfl
theorem YF {args:List V} {h:af} {K:V→af→Prop} (ai:Nat.ble args.length 113=true) (H:b7 Tryz.prog Gf (aR.a1 args) h fun e r aa=>e.ends∧∃ad,cu r aa [.t 4]=some ad∧K (oneOf ad) aa):bB Tryz.prog 70 args h K:=
 c' follows cU Tryz.func70 (c:=Tryz.f70.body.getD .skip) (by kernel_rfl) (by kernel_rfl) (by kernel_rfl) ai YG YH (by kernel_rfl) H
def Gg:bx:=
 .seq (.ar [nZ 2])
 (.seq (.ar [aj 3 0,⟨some 4,.call 94 [(.t 3)],none,[3]⟩,aj 2 4])
 (.ret))
theorem YJ:b9 Tryz.prog Tryz.f71.ntmps (Tryz.f71.body.getD .skip)=Gg:=by kernel_rfl
theorem YK:cE Tryz.prog Tryz.f71.ntmps Tryz.f71.results.toList=[.t 2]:=by kernel_rfl
theorem YI {args:List V} {h:af} {K:V→af→Prop} (ai:Nat.ble args.length 5=true) (H:b7 Tryz.prog Gg (aR.a1 args) h fun e r aa=>e.ends∧∃ad,cu r aa [.t 2]=some ad∧K (oneOf ad) aa):bB Tryz.prog 71 args h K:=
 c' follows cU Tryz.func71 (c:=Tryz.f71.body.getD .skip) (by kernel_rfl) (by kernel_rfl) (by kernel_rfl) ai YJ YK (by kernel_rfl) H
def Mz:bx:=
 .seq (.seq (.ar [aj 80 5,d' 81 1,br 82 81,fm 83 82,gl 84 80 83])
 (.cond (.t 84)
 (.skip)
 (.exit 1)))
 (.seq (.block 2 (.seq (.seq (.ar [aj 87 5,⟨some 88,.bin (.int .gtr) (.t 87) (.c (.int .i64 0)),none,[87]⟩])
 (.cond (.t 88)
 (.ar [aj 89 4,⟨some 90,.bin (.str .add) (.t 89) (.c (.str [44,32])),none,[89]⟩,aj 4 90])
 (.skip)))
 (.ar [aj 91 4,d' 92 1,br 93 92,aj 94 5,hD 95 93 94,b' 96 95,yd 97 96,mT 98 91 97,aj 4 98])))
 (.ar [aj 85 5,ep 86 85,aj 5 86]))
def Gh:bx:=
 .seq (.ar [eK 1 0,nZ 2])
 (.seq (.seq (.ar [f_ 6 1,br 7 6,mS 8 7])
 (.cond (.t 8)
 (.seq (.ar [dy 9 1,br 10 9,⟨some 11,.bin (.int .rem) (.t 10) (.c (.int .i64 26)),none,[10]⟩,⟨some 12,.bin (.int .add) (.c (.int .i64 97)) (.t 11),none,[11]⟩,⟨some 13,.hW (.int .u8) (.t 12),none,[12]⟩,El 14 13,⟨some 15,.hW .str (.t 14),none,[14]⟩,⟨some 16,.bin (.str .add) (.c (.str [39])) (.t 15),none,[15]⟩,aj 3 16])
 (.seq (.seq (.ar [dy 17 1,br 18 17,⟨some 19,.bin (.int .geq) (.t 18) (.c (.int .i64 26)),none,[18]⟩])
 (.cond (.t 19)
 (.ar [aj 20 3,dy 21 1,br 22 21,⟨some 23,.bin (.int .quo) (.t 22) (.c (.int .i64 26)),none,[22]⟩,⟨some 24,.call 98 [(.t 23)],none,[23]⟩,mT 25 20 24,aj 3 25])
 (.skip)))
 (.seq (.ar [aj 26 3,aj 2 26])
 (.ret))))
 (.skip)))
 (.seq (.block 0 (.seq (.ar [gN 28 1,br 29 28,A1 30 29,aj 27 30])
 (.cond (.t 27)
 (.seq (.draw [d' 31 1,br 32 31,rG 33 32,b' 34 33,d' 37 1,br 38 37,x9 39 38,b' 40 39,⟨some 35,.call 99 [(.t 34),(.c (.str [45,62])),(.c (.str [45,62]))],none,[34]⟩,⟨some 36,.bin (.str .add) (.t 35) (.c (.str [32,45,62,32])),none,[35]⟩,yd 41 40,mT 42 36 41,aj 2 42] [(1,[8]),(3,[8]),(5,[8,10]),(7,[8,10])])
 (.ret))
 (.seq (.ar [gN 44 1,br 45 44,⟨some 46,.bin (.str .eql) (.t 45) (.c (.str [42])),none,[45]⟩,aj 43 46])
 (.cond (.t 43)
 (.seq (.draw [d' 47 1,br 48 47,rG 49 48,b' 50 49,d' 53 1,br 54 53,x9 55 54,b' 56 55,⟨some 51,.call 99 [(.t 50),(.c (.str [45,62])),(.c (.str [42]))],none,[50]⟩,⟨some 52,.bin (.str .add) (.t 51) (.c (.str [32,42,32])),none,[51]⟩,⟨some 57,.call 99 [(.t 56),(.c (.str [45,62])),(.c (.str [45,62]))],none,[56]⟩,mT 58 52 57,aj 2 58] [(1,[8]),(3,[8]),(5,[8,10]),(7,[8,10])])
 (.ret))
 (.seq (.ar [d' 60 1,br 61 60,fm 62 61,tl 63 62,aj 59 63])
 (.cond (.t 59)
 (.seq (.ar [gN 64 1,br 65 64,aj 2 65])
 (.ret))
 (.seq (.ar [d' 67 1,br 68 67,fm 69 68,mS 70 69,aj 66 70])
 (.cond (.t 66)
 (.seq (.draw [d' 71 1,br 72 71,rG 73 72,b' 74 73,gN 77 1,br 78 77,⟨some 75,.call 99 [(.t 74),(.c (.str [45,62])),(.c (.str [42]))],none,[74]⟩,⟨some 76,.bin (.str .add) (.t 75) (.c (.str [32])),none,[75]⟩,mT 79 76 78,aj 2 79] [(1,[6]),(3,[6]),(5,[6,10])])
 (.ret))
 (.skip))))))))))
 (.seq (.ar [⟨some 4,.fH (.c (.str [40])),none,[]⟩])
 (.seq (.seq (.ar [eT 5])
 (.block 1 (.loop Mz)))
 (.seq (.ar [aj 99 4,⟨some 100,.bin (.str .add) (.t 99) (.c (.str [41,32])),none,[99]⟩,gN 101 1,br 102 101,mT 103 100 102,aj 2 103])
 (.ret))))))
theorem YM:b9 Tryz.prog Tryz.f73.ntmps (Tryz.f73.body.getD .skip)=Gh:=by kernel_rfl
theorem YN:cE Tryz.prog Tryz.f73.ntmps Tryz.f73.results.toList=[.t 2]:=by kernel_rfl
theorem YL {args:List V} {h:af} {K:V→af→Prop} (ai:Nat.ble args.length 104=true) (H:b7 Tryz.prog Gh (aR.a1 args) h fun e r aa=>e.ends∧∃ad,cu r aa [.t 2]=some ad∧K (oneOf ad) aa):bB Tryz.prog 73 args h K:=
 c' follows cU Tryz.func73 (c:=Tryz.f73.body.getD .skip) (by kernel_rfl) (by kernel_rfl) (by kernel_rfl) ai YM YN (by kernel_rfl) H
def MA:bx:=
 .seq (.seq (.ar [aj 56 10,d' 57 3,br 58 57,fm 59 58,gl 60 56 59])
 (.cond (.t 60)
 (.skip)
 (.exit 0)))
 (.seq (.block 1 (.seq (.draw [d' 64 3,br 65 64,aj 66 10,hD 67 65 66,b' 68 67,d' 69 4,br 70 69,aj 71 10,hD 72 70 71,b' 73 72,aj 74 2,⟨some 75,.call 74 [(.t 68),(.t 73),(.t 74)],none,[68,73,74]⟩,aj 63 75,j0 76 63,j1 77 63,aj 11 76,aj 12 77] [(1,[11]),(4,[11]),(6,[11]),(9,[11])])
 (.seq (.seq (.ar [aj 78 12,nW 79 78])
 (.cond (.t 79)
 (.seq (.ar [iJ 6,dE 7])
 (.ret))
 (.skip)))
 (.ar [aj 80 11,aj 2 80]))))
 (.ar [aj 61 10,ep 62 61,aj 10 62]))
def Gi:bx:=
 .seq (.ar [eK 3 0,eK 4 1,iJ 6,dE 7])
 (.seq (.seq (.ar [f_ 13 3,br 14 13,mS 15 14])
 (.cond (.t 15)
 (.seq (.ar [aj 17 2,dy 18 3,br 19 18,⟨some 20,.call 91 [(.t 17),(.t 19)],none,[17,19]⟩,aj 16 20,j0 21 16,j1 22 16,gD 8,⟨none,.st 4 (.t 8) (.t 21),none,[8,21]⟩,aj 9 22])
 (.seq (.seq (.ar [aj 23 9])
 (.cond (.t 23)
 (.seq (.ar [aj 24 2,b' 25 8,b' 26 4,⟨some 27,.call 32 [(.t 25),(.t 26)],none,[25,26]⟩,aj 6 24,aj 7 27])
 (.ret))
 (.skip)))
 (.seq (.draw [⟨some 28,.hG 0 5 [(.int .i64 0),(.int .i64 0),(.int .i64 0),(.str []),.b6] [],none,[]⟩,aj 29 2,dy 31 3,br 32 31,b' 33 4,La 34 32 33,Lb 35 34,⟨some 30,.app 5 (.t 28) (.t 29),none,[28,29]⟩,⟨some 36,.app 5 (.t 30) (.t 35),none,[30,35]⟩,aj 6 36,mQ 7] [(3,[7,8]),(4,[7,8])])
 (.ret))))
 (.skip)))
 (.seq (.seq (.ar [f_ 37 4,br 38 37,⟨some 39,.bin (.int .neq) (.t 38) (.c (.int .i64 2)),none,[38]⟩,aj 40 39,tk 41 3 40,kp 42 41 40,tk 43 4 40,kp 44 43 40,⟨some 45,.bin (.str .neq) (.t 42) (.t 44),(some (40,false)),[42,44,40]⟩,gw 46 40 45,aj 47 46,ya 48 3 47,kp 49 48 47,yb 50 49 47,ya 51 4 47,kp 52 51 47,yb 53 52 47,Ej 54 50 53 47,gw 55 47 54])
 (.cond (.t 55)
 (.seq (.ar [iJ 6,dE 7])
 (.ret))
 (.skip)))
 (.seq (.seq (.ar [eT 10])
 (.block 0 (.loop MA)))
 (.seq (.ar [aj 81 2,aj 6 81,mQ 7])
 (.ret)))))
theorem YP:b9 Tryz.prog Tryz.f74.ntmps (Tryz.f74.body.getD .skip)=Gi:=by kernel_rfl
theorem YQ:cE Tryz.prog Tryz.f74.ntmps Tryz.f74.results.toList=[.t 6,.t 7]:=by kernel_rfl
theorem YO {args:List V} {h:af} {K:V→af→Prop} (ai:Nat.ble args.length 82=true) (H:b7 Tryz.prog Gi (aR.a1 args) h fun e r aa=>e.ends∧∃ad,cu r aa [.t 6,.t 7]=some ad∧K (oneOf ad) aa):bB Tryz.prog 74 args h K:=
 c' follows cU Tryz.func74 (c:=Tryz.f74.body.getD .skip) (by kernel_rfl) (by kernel_rfl) (by kernel_rfl) ai YP YQ (by kernel_rfl) H
def Gj:bx:=
 .seq (.ar [eK 2 0])
 (.seq (.ar [⟨some 3,.new [.iW],none,[]⟩])
 (.seq (.ar [⟨some 4,.fn 87 [(.t 2),(.t 3)],none,[2,3]⟩,⟨none,.st 1 (.t 3) (.t 4),none,[3,4]⟩])
 (.ar [br 5 3,b' 6 1,⟨some 7,.nb (.t 5) [(.c (.int .i64 1)),(.t 6)],none,[5,6]⟩])))
theorem YV:b9 Tryz.prog Tryz.f86.ntmps (Tryz.f86.body.getD .skip)=Gj:=by kernel_rfl
theorem YW:cE Tryz.prog Tryz.f86.ntmps Tryz.f86.results.toList=[]:=by kernel_rfl
theorem YU {args:List V} {h:af} {K:V→af→Prop} (ai:Nat.ble args.length 8=true) (H:b7 Tryz.prog Gj (aR.a1 args) h fun e r aa=>e.ends∧∃ad,cu r aa []=some ad∧K (oneOf ad) aa):bB Tryz.prog 86 args h K:=
 c' follows cU Tryz.func86 (c:=Tryz.f86.body.getD .skip) (by kernel_rfl) (by kernel_rfl) (by kernel_rfl) ai YV YW (by kernel_rfl) H
def MB:bx:=
 .seq (.ar [gl 18 17 16])
 (.seq (.cond (.t 18)
 (.skip)
 (.exit 0))
 (.seq (.block 1 (.seq (.ar [hD 19 15 17,b' 20 19,gD 8,⟨none,.st 4 (.t 8) (.t 20),none,[8,20]⟩])
 (.seq (.ar [br 21 3,aj 22 0,ep 23 22,b' 24 8,rH 25 21 23 24,nW 26 25])
 (.cond (.t 26)
 (.seq (.ar [dE 6])
 (.ret))
 (.skip)))))
 (.ar [ep 27 17,aj 17 27])))
def Gk:bx:=
 .seq (.ar [eK 5 1,dE 6])
 (.seq (.seq (.ar [br 9 2,aj 10 0,b' 11 5,rH 12 9 10 11,nW 13 12])
 (.cond (.t 13)
 (.seq (.ar [dE 6])
 (.ret))
 (.skip)))
 (.seq (.seq (.ar [d' 14 5,br 15 14,fm 16 15,eT 17])
 (.block 0 (.loop MB)))
 (.seq (.ar [mQ 6])
 (.ret))))
theorem YY:b9 Tryz.prog Tryz.f87.ntmps (Tryz.f87.body.getD .skip)=Gk:=by kernel_rfl
theorem YZ:cE Tryz.prog Tryz.f87.ntmps Tryz.f87.results.toList=[.t 6]:=by kernel_rfl
theorem YX {args:List V} {h:af} {K:V→af→Prop} (ai:Nat.ble args.length 28=true) (H:b7 Tryz.prog Gk (aR.a1 args) h fun e r aa=>e.ends∧∃ad,cu r aa [.t 6]=some ad∧K (oneOf ad) aa):bB Tryz.prog 87 args h K:=
 c' follows cU Tryz.func87 (c:=Tryz.f87.body.getD .skip) (by kernel_rfl) (by kernel_rfl) (by kernel_rfl) ai YY YZ (by kernel_rfl) H
def Gl:bx:=
 .seq (.ar [dE 2])
 (.seq (.ar [aj 6 0,⟨some 7,.call 104 [(.t 6)],none,[6]⟩,aj 5 7,j0 8 5,j1 9 5,⟨some 4,.new [(.int .i64 0),(.int .i64 0)],none,[]⟩,aj 3 8,⟨none,.st 2 (.t 4) (.t 9),none,[4,9]⟩])
 (.seq (.ar [f_ 10 4,br 11 10,tl 12 11,aj 13 12,ed 14 3 13,vo 15 14 13,⟨some 16,.bin (.int .eql) (.t 15) (.c (.int .i64 1)),(some (13,true)),[15,13]⟩,dp 17 13 16,aj 18 17,ed 19 3 18,⟨some 20,.cD 4 (.t 19) (.c (.int .i64 0)),(some (18,true)),[19,18]⟩,vp 21 20 18,eL 22 21 18,⟨some 23,.bin (.int .eql) (.t 22) (.c (.int .i64 3)),(some (18,true)),[22,18]⟩,dp 24 18 23,aj 25 24,ed 26 3 25,⟨some 27,.cD 4 (.t 26) (.c (.int .i64 0)),(some (25,true)),[26,25]⟩,mR 28 27 25,eL 29 28 25,ed 30 0 25,ti 31 29 30 25,dp 32 25 31,aj 2 32])
 (.ret)))
theorem Y1:b9 Tryz.prog Tryz.f88.ntmps (Tryz.f88.body.getD .skip)=Gl:=by kernel_rfl
theorem Y2:cE Tryz.prog Tryz.f88.ntmps Tryz.f88.results.toList=[.t 2]:=by kernel_rfl
theorem Y0 {args:List V} {h:af} {K:V→af→Prop} (ai:Nat.ble args.length 33=true) (H:b7 Tryz.prog Gl (aR.a1 args) h fun e r aa=>e.ends∧∃ad,cu r aa [.t 2]=some ad∧K (oneOf ad) aa):bB Tryz.prog 88 args h K:=
 c' follows cU Tryz.func88 (c:=Tryz.f88.body.getD .skip) (by kernel_rfl) (by kernel_rfl) (by kernel_rfl) ai Y1 Y2 (by kernel_rfl) H
def MC:bx:=
 .seq (.seq (.ar [aj 13 5,aj 14 1,lD 15 14,gl 16 13 15])
 (.cond (.t 16)
 (.skip)
 (.exit 0)))
 (.seq (.block 1 (.seq (.ar [aj 19 1,aj 20 5,A2 21 19 20,⟨some 22,.call 105 [(.t 21)],none,[21]⟩,nW 23 22])
 (.cond (.t 23)
 (.seq (.ar [dE 4])
 (.ret))
 (.skip))))
 (.ar [aj 17 5,ep 18 17,aj 5 18]))
def Gm:bx:=
 .seq (.ar [dE 4])
 (.seq (.seq (.ar [aj 6 1,⟨some 7,.bin (.str .eql) (.t 6) (.c (.str [])),none,[6]⟩,aj 8 7,je 9 1 8,⟨some 10,.len .str (.t 9),(some (8,false)),[9,8]⟩,⟨some 11,.bin (.int .gtr) (.t 10) (.c (.int .i64 64)),(some (8,false)),[10,8]⟩,gw 12 8 11])
 (.cond (.t 12)
 (.seq (.ar [dE 4])
 (.ret))
 (.skip)))
 (.seq (.seq (.ar [eT 5])
 (.block 0 (.loop MC)))
 (.seq (.seq (.ar [aj 24 0])
 (.block 2 (.seq (.ar [⟨some 26,.bin (.int .eql) (.t 24) (.c (.int .i64 4)),none,[24]⟩,aj 25 26])
 (.cond (.t 25)
 (.seq (.ar [aj 27 1,A3 28 27,⟨some 29,.call 106 [(.t 28),(.c (.int .u8 65)),(.c (.int .u8 90))],none,[28]⟩,aj 4 29])
 (.ret))
 (.seq (.ar [⟨some 31,.bin (.int .eql) (.t 24) (.c (.int .i64 5)),none,[24]⟩,aj 30 31])
 (.cond (.t 30)
 (.seq (.ar [aj 32 1,A3 33 32,Em 34 33,aj 4 34])
 (.ret))
 (.skip)))))))
 (.seq (.ar [aj 35 1,A3 36 35,Em 37 36,aj 38 37,je 39 1 38,⟨some 40,.ll (.t 39) (.c (.int .i64 0)),(some (38,false)),[39,38]⟩,A4 41 40 38,gw 42 38 41,aj 43 42,ed 44 1 43,⟨some 45,.bin (.str .neq) (.t 44) (.c (.str [95])),(some (43,true)),[44,43]⟩,dp 46 43 45,aj 47 46,ed 48 1 47,⟨some 49,.call 108 [],(some (47,true)),[47]⟩,⟨some 50,.call 107 [(.t 48),(.t 49)],(some (47,true)),[48,49,47]⟩,AZ 51 50 47,dp 52 47 51,aj 4 52])
 (.ret)))))
theorem Y4:b9 Tryz.prog Tryz.f89.ntmps (Tryz.f89.body.getD .skip)=Gm:=by kernel_rfl
theorem Y5:cE Tryz.prog Tryz.f89.ntmps Tryz.f89.results.toList=[.t 4]:=by kernel_rfl
theorem Y3 {args:List V} {h:af} {K:V→af→Prop} (ai:Nat.ble args.length 53=true) (H:b7 Tryz.prog Gm (aR.a1 args) h fun e r aa=>e.ends∧∃ad,cu r aa [.t 4]=some ad∧K (oneOf ad) aa):bB Tryz.prog 89 args h K:=
 c' follows cU Tryz.func89 (c:=Tryz.f89.body.getD .skip) (by kernel_rfl) (by kernel_rfl) (by kernel_rfl) ai Y4 Y5 (by kernel_rfl) H
def MD:bx:=
 .seq (.ar [gl 12 11 10])
 (.seq (.cond (.t 12)
 (.skip)
 (.exit 0))
 (.seq (.block 1 (.seq (.ar [hD 13 9 11,b' 14 13,gD 5,⟨none,.st 4 (.t 5) (.t 14),none,[5,14]⟩])
 (.draw [d' 15 1,br 16 15,b' 17 5,⟨some 18,.call 90 [(.t 17)],none,[17]⟩,o6 19 18,th 20 16 19,d' 21 1,⟨none,.st 1 (.t 21) (.t 20),none,[21,20]⟩] [(1,[3,5]),(2,[3])])))
 (.ar [ep 22 11,aj 11 22])))
def Gn:bx:=
 .seq (.ar [eK 1 0,gD 2])
 (.seq (.ar [d' 6 1,br 7 6,aj 3 7])
 (.seq (.ar [d' 8 1,⟨none,.st 1 (.t 8) (.c .b6),none,[8]⟩])
 (.seq (.seq (.ar [aj 9 3,fm 10 9,eT 11])
 (.block 0 (.loop MD)))
 (.seq (.ar [b' 23 1,⟨none,.st 4 (.t 2) (.t 23),none,[2,23]⟩])
 (.ret)))))
theorem Y7:b9 Tryz.prog Tryz.f90.ntmps (Tryz.f90.body.getD .skip)=Gn:=by kernel_rfl
theorem Y8:cE Tryz.prog Tryz.f90.ntmps Tryz.f90.results.toList=[.hH 2 4]:=by kernel_rfl
theorem Y6 {args:List V} {h:af} {K:V→af→Prop} (ai:Nat.ble args.length 24=true) (H:b7 Tryz.prog Gn (aR.a1 args) h fun e r aa=>e.ends∧∃ad,cu r aa [.hH 2 4]=some ad∧K (oneOf ad) aa):bB Tryz.prog 90 args h K:=
 c' follows cU Tryz.func90 (c:=Tryz.f90.body.getD .skip) (by kernel_rfl) (by kernel_rfl) (by kernel_rfl) ai Y7 Y8 (by kernel_rfl) H
def ME:bx:=
 .seq (.seq (.ar [aj 7 6,aj 8 0,fm 9 8,gl 10 7 9])
 (.cond (.t 10)
 (.skip)
 (.exit 0)))
 (.seq (.block 1 (.seq (.ar [aj 13 0,aj 14 6,⟨some 15,.cD 5 (.t 13) (.t 14),none,[13,14]⟩,f_ 16 15,br 17 16,aj 18 1,vn 19 17 18])
 (.cond (.t 19)
 (.seq (.ar [aj 20 0,aj 21 6,⟨some 22,.cD 5 (.t 20) (.t 21),none,[20,21]⟩,dy 23 22,b' 24 23,⟨none,.st 4 (.t 4) (.t 24),none,[4,24]⟩,mQ 5])
 (.ret))
 (.skip))))
 (.ar [aj 11 6,ep 12 11,aj 6 12]))
def Gp:bx:=
 .seq (.ar [gD 4,dE 5])
 (.seq (.seq (.ar [eT 6])
 (.block 0 (.loop ME)))
 (.seq (.ar [Ei 25,⟨none,.st 4 (.t 4) (.t 25),none,[4,25]⟩,dE 5])
 (.ret)))
theorem Y':b9 Tryz.prog Tryz.f91.ntmps (Tryz.f91.body.getD .skip)=Gp:=by kernel_rfl
theorem Y_:cE Tryz.prog Tryz.f91.ntmps Tryz.f91.results.toList=[.hH 4 4,.t 5]:=by kernel_rfl
theorem Y9 {args:List V} {h:af} {K:V→af→Prop} (ai:Nat.ble args.length 26=true) (H:b7 Tryz.prog Gp (aR.a1 args) h fun e r aa=>e.ends∧∃ad,cu r aa [.hH 4 4,.t 5]=some ad∧K (oneOf ad) aa):bB Tryz.prog 91 args h K:=
 c' follows cU Tryz.func91 (c:=Tryz.f91.body.getD .skip) (by kernel_rfl) (by kernel_rfl) (by kernel_rfl) ai Y' Y_ (by kernel_rfl) H
def MF:bx:=
 .seq (.seq (.ar [aj 6 5,aj 7 0,fm 8 7,gl 9 6 8])
 (.cond (.t 9)
 (.skip)
 (.exit 0)))
 (.seq (.block 1 (.seq (.ar [aj 12 0,aj 13 5,rI 14 12 13,br 15 14,aj 16 1,vn 17 15 16])
 (.cond (.t 17)
 (.seq (.ar [mQ 4])
 (.ret))
 (.skip))))
 (.ar [aj 10 5,ep 11 10,aj 5 11]))
def Gq:bx:=
 .seq (.ar [dE 4])
 (.seq (.seq (.ar [eT 5])
 (.block 0 (.loop MF)))
 (.seq (.ar [dE 4])
 (.ret)))
theorem Zb:b9 Tryz.prog Tryz.f92.ntmps (Tryz.f92.body.getD .skip)=Gq:=by kernel_rfl
theorem Zc:cE Tryz.prog Tryz.f92.ntmps Tryz.f92.results.toList=[.t 4]:=by kernel_rfl
theorem Za {args:List V} {h:af} {K:V→af→Prop} (ai:Nat.ble args.length 18=true) (H:b7 Tryz.prog Gq (aR.a1 args) h fun e r aa=>e.ends∧∃ad,cu r aa [.t 4]=some ad∧K (oneOf ad) aa):bB Tryz.prog 92 args h K:=
 c' follows cU Tryz.func92 (c:=Tryz.f92.body.getD .skip) (by kernel_rfl) (by kernel_rfl) (by kernel_rfl) ai Zb Zc (by kernel_rfl) H
def MG:bx:=
 .seq (.ar [gl 9 8 7])
 (.seq (.cond (.t 9)
 (.skip)
 (.exit 0))
 (.seq (.block 1 (.seq (.ar [aj 10 8,aj 5 10])
 (.seq (.ar [aj 11 1,aj 12 0,aj 13 5,rI 14 12 13,br 15 14,⟨some 16,.bin (.str .eql) (.t 11) (.t 15),none,[11,15]⟩])
 (.cond (.t 16)
 (.seq (.ar [aj 17 5,aj 4 17])
 (.ret))
 (.skip)))))
 (.ar [ep 18 8,aj 8 18])))
def Gr:bx:=
 .seq (.ar [eT 4])
 (.seq (.seq (.ar [aj 6 0,fm 7 6,eT 8])
 (.block 0 (.loop MG)))
 (.seq (.ar [⟨some 4,.fH (.c (.int .i64 (-1))),none,[]⟩])
 (.ret)))
theorem Ze:b9 Tryz.prog Tryz.f93.ntmps (Tryz.f93.body.getD .skip)=Gr:=by kernel_rfl
theorem Zf:cE Tryz.prog Tryz.f93.ntmps Tryz.f93.results.toList=[.t 4]:=by kernel_rfl
theorem Zd {args:List V} {h:af} {K:V→af→Prop} (ai:Nat.ble args.length 19=true) (H:b7 Tryz.prog Gr (aR.a1 args) h fun e r aa=>e.ends∧∃ad,cu r aa [.t 4]=some ad∧K (oneOf ad) aa):bB Tryz.prog 93 args h K:=
 c' follows cU Tryz.func93 (c:=Tryz.f93.body.getD .skip) (by kernel_rfl) (by kernel_rfl) (by kernel_rfl) ai Ze Zf (by kernel_rfl) H
def Gs:bx:=
 .seq (.ar [nZ 2])
 (.seq (.seq (.ar [aj 3 0,⟨some 4,.bin (.int .lss) (.t 3) (.c (.int .i64 10)),none,[3]⟩])
 (.cond (.t 4)
 (.seq (.ar [aj 5 0,aj 6 0,ep 7 6,⟨some 8,.oQ (.c (.str [48,49,50,51,52,53,54,55,56,57])) (some (.t 5)) (some (.t 7)) none,none,[5,7]⟩,aj 2 8])
 (.ret))
 (.skip)))
 (.seq (.ar [aj 9 0,⟨some 10,.bin (.int .quo) (.t 9) (.c (.int .i64 10)),none,[9]⟩,⟨some 11,.call 98 [(.t 10)],none,[10]⟩,aj 12 0,⟨some 13,.bin (.int .rem) (.t 12) (.c (.int .i64 10)),none,[12]⟩,⟨some 14,.call 98 [(.t 13)],none,[13]⟩,mT 15 11 14,aj 2 15])
 (.ret)))
theorem Zh:b9 Tryz.prog Tryz.f98.ntmps (Tryz.f98.body.getD .skip)=Gs:=by kernel_rfl
theorem Zi:cE Tryz.prog Tryz.f98.ntmps Tryz.f98.results.toList=[.t 2]:=by kernel_rfl
theorem Zg {args:List V} {h:af} {K:V→af→Prop} (ai:Nat.ble args.length 16=true) (H:b7 Tryz.prog Gs (aR.a1 args) h fun e r aa=>e.ends∧∃ad,cu r aa [.t 2]=some ad∧K (oneOf ad) aa):bB Tryz.prog 98 args h K:=
 c' follows cU Tryz.func98 (c:=Tryz.f98.body.getD .skip) (by kernel_rfl) (by kernel_rfl) (by kernel_rfl) ai Zh Zi (by kernel_rfl) H
def Gt:bx:=
 .seq (.ar [eK 3 0,nZ 6])
 (.seq (.seq (.ar [f_ 7 3,br 8 7,⟨some 9,.bin (.int .eql) (.t 8) (.c (.int .i64 2)),none,[8]⟩,aj 10 9,nY 11 3 10,eL 12 11 10,ed 13 1 10,ti 14 12 13 10,ed 15 14 10,tk 16 3 15,kp 17 16 15,je 18 2 15,⟨some 19,.bin (.str .eql) (.t 17) (.t 18),(some (15,false)),[17,18,15]⟩,⟨some 20,.pick (.t 15) (.c (.bool true)) (.t 19),(some (10,true)),[15,19,10]⟩,dp 21 10 20])
 (.cond (.t 21)
 (.seq (.ar [b' 22 3,yd 23 22,Ek 24 23,⟨some 25,.bin (.str .add) (.t 24) (.c (.str [41])),none,[24]⟩,aj 6 25])
 (.ret))
 (.skip)))
 (.seq (.ar [b' 26 3,yd 27 26,aj 6 27])
 (.ret)))
theorem Zk:b9 Tryz.prog Tryz.f99.ntmps (Tryz.f99.body.getD .skip)=Gt:=by kernel_rfl
theorem Zl:cE Tryz.prog Tryz.f99.ntmps Tryz.f99.results.toList=[.t 6]:=by kernel_rfl
theorem Zj {args:List V} {h:af} {K:V→af→Prop} (ai:Nat.ble args.length 28=true) (H:b7 Tryz.prog Gt (aR.a1 args) h fun e r aa=>e.ends∧∃ad,cu r aa [.t 6]=some ad∧K (oneOf ad) aa):bB Tryz.prog 99 args h K:=
 c' follows cU Tryz.func99 (c:=Tryz.f99.body.getD .skip) (by kernel_rfl) (by kernel_rfl) (by kernel_rfl) ai Zk Zl (by kernel_rfl) H
def Fg:bx:=
 .seq (.ar [dE 2])
 (.seq (.ar [aj 3 0,Em 4 3,aj 5 4,je 6 0 5,⟨some 7,.call 106 [(.t 6),(.c (.int .u8 65)),(.c (.int .u8 90))],(some (5,false)),[6,5]⟩,gw 8 5 7,aj 9 8,je 10 0 9,⟨some 11,.call 106 [(.t 10),(.c (.int .u8 48)),(.c (.int .u8 57))],(some (9,false)),[10,9]⟩,gw 12 9 11,aj 13 12,je 14 0 13,A4 15 14 13,gw 16 13 15,aj 17 16,je 18 0 17,⟨some 19,.bin (.int .eql) (.t 18) (.c (.int .u8 39)),(some (17,false)),[18,17]⟩,gw 20 17 19,aj 2 20])
 (.ret))
theorem V6:b9 Tryz.prog Tryz.f105.ntmps (Tryz.f105.body.getD .skip)=Fg:=by kernel_rfl
theorem V7:cE Tryz.prog Tryz.f105.ntmps Tryz.f105.results.toList=[.t 2]:=by kernel_rfl
theorem V5 {args:List V} {h:af} {K:V→af→Prop} (ai:Nat.ble args.length 21=true) (H:b7 Tryz.prog Fg (aR.a1 args) h fun e r aa=>e.ends∧∃ad,cu r aa [.t 2]=some ad∧K (oneOf ad) aa):bB Tryz.prog 105 args h K:=
 c' follows cU Tryz.func105 (c:=Tryz.f105.body.getD .skip) (by kernel_rfl) (by kernel_rfl) (by kernel_rfl) ai V6 V7 (by kernel_rfl) H
def Fh:bx:=
 .seq (.ar [dE 6])
 (.seq (.ar [aj 7 0,aj 8 1,yf 9 7 8,aj 10 9,ed 11 0 10,ed 12 2 10,⟨some 13,.bin (.int .leq) (.t 11) (.t 12),(some (10,true)),[11,12,10]⟩,dp 14 10 13,aj 6 14])
 (.ret))
theorem V9:b9 Tryz.prog Tryz.f106.ntmps (Tryz.f106.body.getD .skip)=Fh:=by kernel_rfl
theorem V':cE Tryz.prog Tryz.f106.ntmps Tryz.f106.results.toList=[.t 6]:=by kernel_rfl
theorem V8 {args:List V} {h:af} {K:V→af→Prop} (ai:Nat.ble args.length 15=true) (H:b7 Tryz.prog Fh (aR.a1 args) h fun e r aa=>e.ends∧∃ad,cu r aa [.t 6]=some ad∧K (oneOf ad) aa):bB Tryz.prog 106 args h K:=
 c' follows cU Tryz.func106 (c:=Tryz.f106.body.getD .skip) (by kernel_rfl) (by kernel_rfl) (by kernel_rfl) ai V9 V' (by kernel_rfl) H
def Mg:bx:=
 .seq (.seq (.ar [aj 6 5,aj 7 1,fm 8 7,gl 9 6 8])
 (.cond (.t 9)
 (.skip)
 (.exit 0)))
 (.seq (.block 1 (.seq (.ar [aj 12 1,aj 13 5,rI 14 12 13,br 15 14,aj 16 0,⟨some 17,.bin (.str .eql) (.t 15) (.t 16),none,[15,16]⟩])
 (.cond (.t 17)
 (.seq (.ar [mQ 4])
 (.ret))
 (.skip))))
 (.ar [aj 10 5,ep 11 10,aj 5 11]))
def Fi:bx:=
 .seq (.ar [dE 4])
 (.seq (.seq (.ar [eT 5])
 (.block 0 (.loop Mg)))
 (.seq (.ar [dE 4])
 (.ret)))
theorem Wa:b9 Tryz.prog Tryz.f107.ntmps (Tryz.f107.body.getD .skip)=Fi:=by kernel_rfl
theorem Wb:cE Tryz.prog Tryz.f107.ntmps Tryz.f107.results.toList=[.t 4]:=by kernel_rfl
theorem V_ {args:List V} {h:af} {K:V→af→Prop} (ai:Nat.ble args.length 18=true) (H:b7 Tryz.prog Fi (aR.a1 args) h fun e r aa=>e.ends∧∃ad,cu r aa [.t 4]=some ad∧K (oneOf ad) aa):bB Tryz.prog 107 args h K:=
 c' follows cU Tryz.func107 (c:=Tryz.f107.body.getD .skip) (by kernel_rfl) (by kernel_rfl) (by kernel_rfl) ai Wa Wb (by kernel_rfl) H
def Fj:bx:=
 .seq (.ar [iJ 0])
 (.seq (.ar [⟨some 1,.hG 20 1 [(.str [])] [(0,1,(.c (.str [97,110,100]))),(1,1,(.c (.str [98,101,103,105,110]))),(2,1,(.c (.str [101,108,115,101]))),(3,1,(.c (.str [101,110,100]))),(4,1,(.c (.str [101,120,99,101,112,116,105,111,110]))),(5,1,(.c (.str [102,97,108,115,101]))),(6,1,(.c (.str [102,117,110]))),(7,1,(.c (.str [105,102]))),(8,1,(.c (.str [105,110]))),(9,1,(.c (.str [108,101,116]))),(10,1,(.c (.str [109,97,116,99,104]))),(11,1,(.c (.str [109,111,100]))),(12,1,(.c (.str [111,102]))),(13,1,(.c (.str [114,97,105,115,101]))),(14,1,(.c (.str [114,101,99]))),(15,1,(.c (.str [116,104,101,110]))),(16,1,(.c (.str [116,114,117,101]))),(17,1,(.c (.str [116,114,121]))),(18,1,(.c (.str [116,121,112,101]))),(19,1,(.c (.str [119,105,116,104])))],none,[]⟩,aj 0 1])
 (.ret))
theorem Wd:b9 Tryz.prog Tryz.f108.ntmps (Tryz.f108.body.getD .skip)=Fj:=by kernel_rfl
theorem We:cE Tryz.prog Tryz.f108.ntmps Tryz.f108.results.toList=[.t 0]:=by kernel_rfl
theorem Wc {args:List V} {h:af} {K:V→af→Prop} (ai:Nat.ble args.length 2=true) (H:b7 Tryz.prog Fj (aR.a1 args) h fun e r aa=>e.ends∧∃ad,cu r aa [.t 0]=some ad∧K (oneOf ad) aa):bB Tryz.prog 108 args h K:=
 c' follows cU Tryz.func108 (c:=Tryz.f108.body.getD .skip) (by kernel_rfl) (by kernel_rfl) (by kernel_rfl) ai Wd We (by kernel_rfl) H
def Mf:bx:=
 .block 1 (.seq (.ar [aj 24 5,dt 25 24,dy 26 25,br 27 26,aj 7 27])
 (.seq (.block 2 (.seq (.ar [aj 37 7,aj 38 0,lD 39 38,yf 40 37 39,aj 36 40])
 (.cond (.t 36)
 (.exit 0)
 (.seq (.ar [aj 42 0,aj 43 7,A2 44 42 43,⟨some 45,.call 124 [(.c (.str [9,10,13,32])),(.t 44)],none,[44]⟩,ye 46 45,aj 41 46])
 (.cond (.t 41)
 (.ar [aj 47 5,dt 48 47,dy 49 48,br 50 49,ep 51 50,dt 52 47,dy 53 52,⟨none,.st 1 (.t 53) (.t 51),none,[53,51]⟩])
 (.seq (.ar [aj 55 5,⟨some 56,.call 125 [(.t 55),(.c (.str [40,42]))],none,[55]⟩,aj 54 56])
 (.cond (.t 54)
 (.ar [aj 57 5,⟨some 58,.call 126 [(.t 57)],none,[57]⟩])
 (.seq (.ar [aj 28 5,⟨some 29,.call 127 [(.t 28)],none,[28]⟩,yg 8,⟨none,.st 4 (.t 8) (.t 29),none,[8,29]⟩])
 (.seq (.ar [aj 30 7,gN 31 8,⟨none,.st 1 (.t 31) (.t 30),none,[31,30]⟩])
 (.ar [aj 32 6,b' 33 8,⟨some 34,.hG 1 4 [(.int .i64 0),(.int .i64 0),(.int .i64 0),(.str [])] [(0,4,(.t 33))],none,[33]⟩,th 35 32 34,aj 6 35]))))))))))
 (.seq (.ar [aj 59 5,dt 60 59,gN 61 60,br 62 61,tj 63 62])
 (.cond (.t 63)
 (.seq (.draw [aj 64 5,dt 65 64,gN 66 65,br 67 66,aj 68 7,⟨some 69,.build [(.int .i64 0),(.int .i64 0)] [(0,1,(.t 67)),(1,1,(.t 68))],none,[67,68]⟩,iJ 2,⟨none,.st 2 (.t 3) (.t 69),none,[3,69]⟩] [(3,[7])])
 (.ret))
 (.skip)))))
def Ff:bx:=
 .seq (.ar [iJ 2,⟨some 3,.new [(.int .i64 0),(.int .i64 0)],none,[]⟩])
 (.seq (.seq (.ar [aj 9 0,lD 10 9,⟨some 11,.bin (.int .gtr) (.t 10) (.c (.int .i64 65536)),none,[10]⟩])
 (.cond (.t 11)
 (.seq (.ar [⟨some 12,.build [(.int .i64 0),(.int .i64 0)] [(0,1,(.c (.int .i64 3)))],none,[]⟩,iJ 2,⟨none,.st 2 (.t 3) (.t 12),none,[3,12]⟩])
 (.ret))
 (.skip)))
 (.seq (.seq (.ar [aj 13 0,⟨some 14,.call 123 [(.t 13)],none,[13]⟩,aj 4 14])
 (.seq (.ar [aj 15 4,aj 16 0,lD 17 16,gl 18 15 17])
 (.cond (.t 18)
 (.seq (.ar [aj 19 4,⟨some 20,.build [(.int .i64 0),(.int .i64 0)] [(0,1,(.c (.int .i64 250))),(1,1,(.t 19))],none,[19]⟩,iJ 2,⟨none,.st 2 (.t 3) (.t 20),none,[3,20]⟩])
 (.ret))
 (.skip))))
 (.seq (.ar [aj 21 0,⟨some 22,.build [(.str []),(.int .i64 0),(.int .i64 0)] [(0,1,(.t 21))],none,[21]⟩,eK 23 22,aj 5 23])
 (.seq (.ar [iJ 6])
 (.seq (.skip)
 (.seq (.block 0 (.loop Mf))
 (.seq (.ar [aj 70 6,⟨some 71,.build [(.int .i64 0),(.int .i64 0)] [],none,[]⟩,aj 2 70,⟨none,.st 2 (.t 3) (.t 71),none,[3,71]⟩])
 (.ret))))))))
theorem V3:b9 Tryz.prog Tryz.f104.ntmps (Tryz.f104.body.getD .skip)=Ff:=by kernel_rfl
theorem V4:cE Tryz.prog Tryz.f104.ntmps Tryz.f104.results.toList=[.t 2,.hH 3 2]:=by kernel_rfl
theorem V2 {args:List V} {h:af} {K:V→af→Prop} (ai:Nat.ble args.length 72=true) (H:b7 Tryz.prog Ff (aR.a1 args) h fun e r aa=>e.ends∧∃ad,cu r aa [.t 2,.hH 3 2]=some ad∧K (oneOf ad) aa):bB Tryz.prog 104 args h K:=
 c' follows cU Tryz.func104 (c:=Tryz.f104.body.getD .skip) (by kernel_rfl) (by kernel_rfl) (by kernel_rfl) ai V3 V4 (by kernel_rfl) H
def Mh:bx:=
 .seq (.ar [⟨some 9,.xn (.t 8),none,[8]⟩,j0 10 9])
 (.seq (.cond (.t 10)
 (.skip)
 (.exit 0))
 (.block 1 (.seq (.ar [j1 11 9,⟨some 12,.ext (.t 9) 2,none,[9]⟩,aj 3 11,aj 4 12])
 (.seq (.ar [aj 13 4,⟨some 14,.bin (.int .eql) (.t 13) (.c (.int .i32 65533)),none,[13]⟩])
 (.cond (.t 14)
 (.seq (.ar [aj 16 0,aj 17 3,En 18 16 17,⟨some 19,.call 137 [(.t 18)],none,[18]⟩,aj 15 19,j0 20 15,j1 21 15,aj 5 20,aj 6 21])
 (.seq (.ar [aj 22 6,mS 23 22])
 (.cond (.t 23)
 (.seq (.ar [aj 24 3,aj 2 24])
 (.ret))
 (.skip))))
 (.skip))))))
def Fl:bx:=
 .seq (.ar [eT 2])
 (.seq (.seq (.ar [aj 7 0,⟨some 8,.xA (.t 7),none,[7]⟩])
 (.block 0 (.loop Mh)))
 (.seq (.ar [aj 25 0,lD 26 25,aj 2 26])
 (.ret)))
theorem Wj:b9 Tryz.prog Tryz.f123.ntmps (Tryz.f123.body.getD .skip)=Fl:=by kernel_rfl
theorem Wk:cE Tryz.prog Tryz.f123.ntmps Tryz.f123.results.toList=[.t 2]:=by kernel_rfl
theorem Wi {args:List V} {h:af} {K:V→af→Prop} (ai:Nat.ble args.length 27=true) (H:b7 Tryz.prog Fl (aR.a1 args) h fun e r aa=>e.ends∧∃ad,cu r aa [.t 2]=some ad∧K (oneOf ad) aa):bB Tryz.prog 123 args h K:=
 c' follows cU Tryz.func123 (c:=Tryz.f123.body.getD .skip) (by kernel_rfl) (by kernel_rfl) (by kernel_rfl) ai Wj Wk (by kernel_rfl) H
def Fm:bx:=
 .seq (.ar [eT 4])
 (.seq (.ar [aj 5 0,aj 6 1,⟨some 7,.call 138 [(.t 5),(.t 6)],none,[5,6]⟩,aj 4 7])
 (.ret))
theorem Wm:b9 Tryz.prog Tryz.f124.ntmps (Tryz.f124.body.getD .skip)=Fm:=by kernel_rfl
theorem Wn:cE Tryz.prog Tryz.f124.ntmps Tryz.f124.results.toList=[.t 4]:=by kernel_rfl
theorem Wl {args:List V} {h:af} {K:V→af→Prop} (ai:Nat.ble args.length 8=true) (H:b7 Tryz.prog Fm (aR.a1 args) h fun e r aa=>e.ends∧∃ad,cu r aa [.t 4]=some ad∧K (oneOf ad) aa):bB Tryz.prog 124 args h K:=
 c' follows cU Tryz.func124 (c:=Tryz.f124.body.getD .skip) (by kernel_rfl) (by kernel_rfl) (by kernel_rfl) ai Wm Wn (by kernel_rfl) H
def Fo:bx:=
 .seq (.ar [dE 4])
 (.seq (.draw [aj 5 0,dt 6 5,f_ 7 6,br 8 7,aj 9 0,dt 10 9,dy 11 10,br 12 11,En 13 8 12,aj 14 1,⟨some 15,.call 139 [(.t 13),(.t 14)],none,[13,14]⟩,aj 4 15] [(3,[10]),(7,[10])])
 (.ret))
theorem Wp:b9 Tryz.prog Tryz.f125.ntmps (Tryz.f125.body.getD .skip)=Fo:=by kernel_rfl
theorem Wq:cE Tryz.prog Tryz.f125.ntmps Tryz.f125.results.toList=[.t 4]:=by kernel_rfl
theorem Wo {args:List V} {h:af} {K:V→af→Prop} (ai:Nat.ble args.length 16=true) (H:b7 Tryz.prog Fo (aR.a1 args) h fun e r aa=>e.ends∧∃ad,cu r aa [.t 4]=some ad∧K (oneOf ad) aa):bB Tryz.prog 125 args h K:=
 c' follows cU Tryz.func125 (c:=Tryz.f125.body.getD .skip) (by kernel_rfl) (by kernel_rfl) (by kernel_rfl) ai Wp Wq (by kernel_rfl) H
def Mi:bx:=
 .block 1 (.block 2 (.seq (.draw [aj 11 0,dt 12 11,dy 13 12,br 14 13,aj 15 0,dt 16 15,f_ 17 16,br 18 17,lD 19 18,yf 20 14 19,aj 10 20] [])
 (.cond (.t 10)
 (.seq (.ar [aj 21 0,dt 22 21,gN 23 22,⟨none,.st 1 (.t 23) (.c (.int .i64 253)),none,[23]⟩])
 (.ret))
 (.seq (.ar [aj 25 0,⟨some 26,.call 125 [(.t 25),(.c (.str [40,42]))],none,[25]⟩,aj 24 26])
 (.cond (.t 24)
 (.seq (.ar [aj 27 2,ep 28 27,aj 2 28])
 (.ar [aj 29 0,dt 30 29,dy 31 30,br 32 31,⟨some 33,.bin (.int .add) (.t 32) (.c (.int .i64 2)),none,[32]⟩,dt 34 29,dy 35 34,⟨none,.st 1 (.t 35) (.t 33),none,[35,33]⟩]))
 (.seq (.ar [aj 37 0,⟨some 38,.call 125 [(.t 37),(.c (.str [42,41]))],none,[37]⟩,aj 36 38])
 (.cond (.t 36)
 (.seq (.ar [aj 39 2,⟨some 40,.bin (.int .sub) (.t 39) (.c (.int .i64 1)),none,[39]⟩,aj 2 40])
 (.seq (.ar [aj 41 0,dt 42 41,dy 43 42,br 44 43,⟨some 45,.bin (.int .add) (.t 44) (.c (.int .i64 2)),none,[44]⟩,dt 46 41,dy 47 46,⟨none,.st 1 (.t 47) (.t 45),none,[47,45]⟩])
 (.seq (.ar [aj 48 2,tl 49 48])
 (.cond (.t 49)
 (.ret)
 (.skip)))))
 (.ar [aj 3 0,dt 4 3,dy 5 4,br 6 5,ep 7 6,dt 8 3,dy 9 8,⟨none,.st 1 (.t 9) (.t 7),none,[9,7]⟩]))))))))
def Fp:bx:=
 .seq (.ar [eT 2])
 (.block 0 (.loop Mi))
theorem Ws:b9 Tryz.prog Tryz.f126.ntmps (Tryz.f126.body.getD .skip)=Fp:=by kernel_rfl
theorem Wt:cE Tryz.prog Tryz.f126.ntmps Tryz.f126.results.toList=[]:=by kernel_rfl
theorem Wr {args:List V} {h:af} {K:V→af→Prop} (ai:Nat.ble args.length 50=true) (H:b7 Tryz.prog Fp (aR.a1 args) h fun e r aa=>e.ends∧∃ad,cu r aa []=some ad∧K (oneOf ad) aa):bB Tryz.prog 126 args h K:=
 c' follows cU Tryz.func126 (c:=Tryz.f126.body.getD .skip) (by kernel_rfl) (by kernel_rfl) (by kernel_rfl) ai Ws Wt (by kernel_rfl) H
def Mj:bx:=
 .seq (.ar [gl 80 79 78])
 (.seq (.cond (.t 80)
 (.skip)
 (.exit 1))
 (.seq (.block 2 (.seq (.ar [rI 81 77 79,br 82 81,aj 5 82])
 (.seq (.ar [aj 83 0,aj 84 5,⟨some 85,.call 125 [(.t 83),(.t 84)],none,[83,84]⟩])
 (.cond (.t 85)
 (.seq (.ar [aj 86 0,dt 87 86,dy 88 87,br 89 88,aj 90 5,lD 91 90,AY 92 89 91,dt 93 86,dy 94 93,⟨none,.st 1 (.t 94) (.t 92),none,[94,92]⟩])
 (.seq (.ar [aj 95 5,Ld 96 95,⟨none,.st 4 (.t 2) (.t 96),none,[2,96]⟩])
 (.ret)))
 (.skip)))))
 (.ar [ep 97 79,aj 79 97])))
def Fq:bx:=
 .seq (.ar [yg 2])
 (.seq (.draw [aj 6 0,dt 7 6,f_ 8 7,br 9 8,aj 10 0,dt 11 10,dy 12 11,br 13 12,A2 14 9 13,aj 3 14] [])
 (.seq (.block 0 (.seq (.ar [aj 16 3,⟨some 17,.call 140 [(.t 16)],none,[16]⟩,aj 15 17])
 (.cond (.t 15)
 (.seq (.ar [aj 18 0,⟨some 19,.call 141 [(.t 18)],none,[18]⟩,⟨none,.st 4 (.t 2) (.t 19),none,[2,19]⟩])
 (.ret))
 (.seq (.ar [aj 21 3,⟨some 22,.bin (.int .eql) (.t 21) (.c (.int .u8 34)),none,[21]⟩,aj 20 22])
 (.cond (.t 20)
 (.seq (.ar [aj 23 0,⟨some 24,.call 142 [(.t 23)],none,[23]⟩,⟨none,.st 4 (.t 2) (.t 24),none,[2,24]⟩])
 (.ret))
 (.seq (.ar [aj 26 3,⟨some 27,.call 143 [(.t 26)],none,[26]⟩,aj 28 27,je 29 3 28,A4 30 29 28,gw 31 28 30,aj 25 31])
 (.cond (.t 25)
 (.seq (.ar [aj 32 0,⟨some 33,.call 144 [(.t 32),(.c (.int .i64 3))],none,[32]⟩,⟨none,.st 4 (.t 2) (.t 33),none,[2,33]⟩])
 (.ret))
 (.seq (.ar [aj 35 3,⟨some 36,.call 145 [(.t 35)],none,[35]⟩,aj 34 36])
 (.cond (.t 34)
 (.seq (.ar [aj 37 0,⟨some 38,.call 144 [(.t 37),(.c (.int .i64 4))],none,[37]⟩,⟨none,.st 4 (.t 2) (.t 38),none,[2,38]⟩])
 (.ret))
 (.seq (.draw [aj 40 3,⟨some 41,.bin (.int .eql) (.t 40) (.c (.int .u8 39)),none,[40]⟩,aj 42 41,ed 43 0 42,vq 44 43 42,nX 45 44 42,eL 46 45 42,⟨some 47,.bin (.int .add) (.t 46) (.c (.int .i64 1)),(some (42,true)),[46,42]⟩,ed 48 0 42,vq 49 48 42,vp 50 49 42,eL 51 50 42,⟨some 52,.len .str (.t 51),(some (42,true)),[51,42]⟩,⟨some 53,.bin (.int .lss) (.t 47) (.t 52),(some (42,true)),[47,52,42]⟩,dp 54 42 53,aj 55 54,ed 56 0 55,vq 57 56 55,vp 58 57 55,eL 59 58 55,ed 60 0 55,vq 61 60 55,nX 62 61 55,eL 63 62 55,⟨some 64,.bin (.int .add) (.t 63) (.c (.int .i64 1)),(some (55,true)),[63,55]⟩,⟨some 65,.ll (.t 59) (.t 64),(some (55,true)),[59,64,55]⟩,⟨some 66,.call 143 [(.t 65)],(some (55,true)),[65,55]⟩,dp 67 55 66,aj 39 67] [(6,[26]),(11,[26]),(19,[26]),(23,[26])])
 (.cond (.t 39)
 (.seq (.ar [aj 68 0,dt 69 68,dy 70 69,br 71 70,ep 72 71,dt 73 68,dy 74 73,⟨none,.st 1 (.t 74) (.t 72),none,[74,72]⟩])
 (.seq (.ar [aj 75 0,⟨some 76,.call 144 [(.t 75),(.c (.int .i64 5))],none,[75]⟩,⟨none,.st 4 (.t 2) (.t 76),none,[2,76]⟩])
 (.ret)))
 (.skip))))))))))))
 (.seq (.seq (.ar [⟨some 77,.call 146 [],none,[]⟩,fm 78 77,eT 79])
 (.block 1 (.loop Mj)))
 (.seq (.ar [aj 98 0,dt 99 98,gN 100 99,⟨none,.st 1 (.t 100) (.c (.int .i64 251)),none,[100]⟩])
 (.seq (.ar [Eo 101,⟨none,.st 4 (.t 2) (.t 101),none,[2,101]⟩])
 (.ret))))))
theorem Wv:b9 Tryz.prog Tryz.f127.ntmps (Tryz.f127.body.getD .skip)=Fq:=by kernel_rfl
theorem Ww:cE Tryz.prog Tryz.f127.ntmps Tryz.f127.results.toList=[.hH 2 4]:=by kernel_rfl
theorem Wu {args:List V} {h:af} {K:V→af→Prop} (ai:Nat.ble args.length 102=true) (H:b7 Tryz.prog Fq (aR.a1 args) h fun e r aa=>e.ends∧∃ad,cu r aa [.hH 2 4]=some ad∧K (oneOf ad) aa):bB Tryz.prog 127 args h K:=
 c' follows cU Tryz.func127 (c:=Tryz.f127.body.getD .skip) (by kernel_rfl) (by kernel_rfl) (by kernel_rfl) ai Wv Ww (by kernel_rfl) H
def c138:bx:=
 .seq (.ar [eT 4])
 (.seq (.ar [aj 5 0,aj 6 1,⟨some 7,.call 153 [(.t 5),(.t 6)],none,[5,6]⟩,aj 4 7])
 (.ret))
theorem WB:b9 Tryz.prog Tryz.f138.ntmps (Tryz.f138.body.getD .skip)=c138:=by kernel_rfl
theorem WC:cE Tryz.prog Tryz.f138.ntmps Tryz.f138.results.toList=[.t 4]:=by kernel_rfl
theorem WA {args:List V} {h:af} {K:V→af→Prop} (ai:Nat.ble args.length 8=true) (H:b7 Tryz.prog c138 (aR.a1 args) h fun e r aa=>e.ends∧∃ad,cu r aa [.t 4]=some ad∧K (oneOf ad) aa):bB Tryz.prog 138 args h K:=
 c' follows cU Tryz.func138 (c:=Tryz.f138.body.getD .skip) (by kernel_rfl) (by kernel_rfl) (by kernel_rfl) ai WB WC (by kernel_rfl) H
def Fs:bx:=
 .seq (.ar [dE 4])
 (.seq (.ar [aj 5 0,aj 6 1,⟨some 7,.call 154 [(.t 5),(.t 6)],none,[5,6]⟩,aj 4 7])
 (.ret))
theorem WE:b9 Tryz.prog Tryz.f139.ntmps (Tryz.f139.body.getD .skip)=Fs:=by kernel_rfl
theorem WG:cE Tryz.prog Tryz.f139.ntmps Tryz.f139.results.toList=[.t 4]:=by kernel_rfl
theorem WD {args:List V} {h:af} {K:V→af→Prop} (ai:Nat.ble args.length 8=true) (H:b7 Tryz.prog Fs (aR.a1 args) h fun e r aa=>e.ends∧∃ad,cu r aa [.t 4]=some ad∧K (oneOf ad) aa):bB Tryz.prog 139 args h K:=
 c' follows cU Tryz.func139 (c:=Tryz.f139.body.getD .skip) (by kernel_rfl) (by kernel_rfl) (by kernel_rfl) ai WE WG (by kernel_rfl) H
def Ft:bx:=
 .seq (.ar [dE 2])
 (.seq (.ar [aj 3 0,⟨some 4,.bin (.int .geq) (.t 3) (.c (.int .u8 48)),none,[3]⟩,aj 5 4,ed 6 0 5,⟨some 7,.bin (.int .leq) (.t 6) (.c (.int .u8 57)),(some (5,true)),[6,5]⟩,dp 8 5 7,aj 2 8])
 (.ret))
theorem WI:b9 Tryz.prog Tryz.f140.ntmps (Tryz.f140.body.getD .skip)=Ft:=by kernel_rfl
theorem WJ:cE Tryz.prog Tryz.f140.ntmps Tryz.f140.results.toList=[.t 2]:=by kernel_rfl
theorem WH {args:List V} {h:af} {K:V→af→Prop} (ai:Nat.ble args.length 9=true) (H:b7 Tryz.prog Ft (aR.a1 args) h fun e r aa=>e.ends∧∃ad,cu r aa [.t 2]=some ad∧K (oneOf ad) aa):bB Tryz.prog 140 args h K:=
 c' follows cU Tryz.func140 (c:=Tryz.f140.body.getD .skip) (by kernel_rfl) (by kernel_rfl) (by kernel_rfl) ai WI WJ (by kernel_rfl) H
def Fu:bx:=
 .seq (.ar [yg 2])
 (.seq (.ar [aj 7 0,⟨some 8,.call 156 [(.t 7),(.c (.func 140 []))],none,[7]⟩,⟨some 9,.call 155 [(.t 8),(.c (.int .i64 10)),(.c (.int .i64 64))],none,[8]⟩,aj 6 9,j0 10 6,j1 11 6,aj 3 10,aj 4 11])
 (.seq (.seq (.ar [aj 12 4,⟨some 13,.bin (.j6 true 5) (.t 12) (.c .nilIface),none,[12]⟩,aj 14 13,je 15 3 14,⟨some 16,.bin (.int .gtr) (.t 15) (.c (.int .u64 2147483647)),(some (14,false)),[15,14]⟩,gw 17 14 16])
 (.cond (.t 17)
 (.seq (.ar [aj 18 0,dt 19 18,gN 20 19,⟨none,.st 1 (.t 20) (.c (.int .i64 254)),none,[20]⟩])
 (.seq (.ar [Eo 21,⟨none,.st 4 (.t 2) (.t 21),none,[2,21]⟩])
 (.ret)))
 (.skip)))
 (.seq (.ar [aj 22 3,⟨some 23,.hW (.int .i64) (.t 22),none,[22]⟩,aj 5 23])
 (.seq (.seq (.ar [aj 24 5,⟨some 25,.bin (.int .gtr) (.t 24) (.c (.int .i64 1073741823)),none,[24]⟩])
 (.cond (.t 25)
 (.ar [aj 26 5,⟨some 27,.bin (.int .sub) (.t 26) (.c (.int .i64 2147483648)),none,[26]⟩,aj 5 27])
 (.skip)))
 (.seq (.ar [aj 28 5,⟨some 29,.build [(.int .i64 0),(.int .i64 0),(.int .i64 0),(.str [])] [(0,1,(.c (.int .i64 1))),(1,1,(.t 28))],none,[28]⟩,⟨none,.st 4 (.t 2) (.t 29),none,[2,29]⟩])
 (.ret))))))
theorem WL:b9 Tryz.prog Tryz.f141.ntmps (Tryz.f141.body.getD .skip)=Fu:=by kernel_rfl
theorem WM:cE Tryz.prog Tryz.f141.ntmps Tryz.f141.results.toList=[.hH 2 4]:=by kernel_rfl
theorem WK {args:List V} {h:af} {K:V→af→Prop} (ai:Nat.ble args.length 30=true) (H:b7 Tryz.prog Fu (aR.a1 args) h fun e r aa=>e.ends∧∃ad,cu r aa [.hH 2 4]=some ad∧K (oneOf ad) aa):bB Tryz.prog 141 args h K:=
 c' follows cU Tryz.func141 (c:=Tryz.f141.body.getD .skip) (by kernel_rfl) (by kernel_rfl) (by kernel_rfl) ai WL WM (by kernel_rfl) H
def Ml:bx:=
 .seq (.seq (.ar [aj 12 0,dt 13 12,gN 14 13,br 15 14,tl 16 15])
 (.cond (.t 16)
 (.skip)
 (.exit 0)))
 (.block 1 (.seq (.seq (.draw [aj 17 0,dt 18 17,dy 19 18,br 20 19,aj 21 0,dt 22 21,f_ 23 22,br 24 23,lD 25 24,yf 26 20 25] [])
 (.cond (.t 26)
 (.seq (.ar [aj 27 0,dt 28 27,gN 29 28,⟨none,.st 1 (.t 29) (.c (.int .i64 252)),none,[29]⟩])
 (.exit 0))
 (.skip)))
 (.seq (.draw [aj 30 0,dt 31 30,f_ 32 31,br 33 32,aj 34 0,dt 35 34,dy 36 35,br 37 36,A2 38 33 37,aj 4 38] [])
 (.block 2 (.seq (.ar [aj 51 4,⟨some 52,.bin (.int .eql) (.t 51) (.c (.int .u8 34)),none,[51]⟩,aj 50 52])
 (.cond (.t 50)
 (.seq (.ar [aj 53 0,dt 54 53,dy 55 54,br 56 55,ep 57 56,dt 58 53,dy 59 58,⟨none,.st 1 (.t 59) (.t 57),none,[59,57]⟩])
 (.seq (.seq (.ar [aj 60 3,fm 61 60,Eg 62 61])
 (.cond (.t 62)
 (.ar [aj 63 0,dt 64 63,gN 65 64,⟨none,.st 1 (.t 65) (.c (.int .i64 255)),none,[65]⟩])
 (.skip)))
 (.seq (.ar [aj 66 3,⟨some 67,.hW .str (.t 66),none,[66]⟩,⟨some 68,.build [(.int .i64 0),(.int .i64 0),(.int .i64 0),(.str [])] [(0,1,(.c (.int .i64 2))),(3,1,(.t 67))],none,[67]⟩,⟨none,.st 4 (.t 2) (.t 68),none,[2,68]⟩])
 (.ret))))
 (.seq (.ar [aj 70 4,⟨some 71,.bin (.int .eql) (.t 70) (.c (.int .u8 92)),none,[70]⟩,aj 69 71])
 (.cond (.t 69)
 (.ar [aj 72 3,aj 73 0,⟨some 74,.call 157 [(.t 73)],none,[73]⟩,El 75 74,yc 76 72 75,aj 3 76])
 (.seq (.ar [aj 78 4,⟨some 79,.bin (.int .lss) (.t 78) (.c (.int .u8 32)),none,[78]⟩,aj 80 79,je 81 4 80,⟨some 82,.bin (.int .eql) (.t 81) (.c (.int .u8 127)),(some (80,false)),[81,80]⟩,gw 83 80 82,aj 77 83])
 (.cond (.t 77)
 (.ar [aj 84 0,dt 85 84,gN 86 85,⟨none,.st 1 (.t 86) (.c (.int .i64 252)),none,[86]⟩])
 (.seq (.ar [aj 39 0,dt 40 39,dy 41 40,br 42 41,ep 43 42,dt 44 39,dy 45 44,⟨none,.st 1 (.t 45) (.t 43),none,[45,43]⟩])
 (.ar [aj 46 3,aj 47 4,El 48 47,yc 49 46 48,aj 3 49]))))))))))))
def Fv:bx:=
 .seq (.ar [yg 2])
 (.seq (.ar [aj 5 0,dt 6 5,dy 7 6,br 8 7,ep 9 8,dt 10 5,dy 11 10,⟨none,.st 1 (.t 11) (.t 9),none,[11,9]⟩])
 (.seq (.ar [iJ 3])
 (.seq (.block 0 (.loop Ml))
 (.seq (.ar [Eo 87,⟨none,.st 4 (.t 2) (.t 87),none,[2,87]⟩])
 (.ret)))))
theorem WO:b9 Tryz.prog Tryz.f142.ntmps (Tryz.f142.body.getD .skip)=Fv:=by kernel_rfl
theorem WQ:cE Tryz.prog Tryz.f142.ntmps Tryz.f142.results.toList=[.hH 2 4]:=by kernel_rfl
theorem WN {args:List V} {h:af} {K:V→af→Prop} (ai:Nat.ble args.length 88=true) (H:b7 Tryz.prog Fv (aR.a1 args) h fun e r aa=>e.ends∧∃ad,cu r aa [.hH 2 4]=some ad∧K (oneOf ad) aa):bB Tryz.prog 142 args h K:=
 c' follows cU Tryz.func142 (c:=Tryz.f142.body.getD .skip) (by kernel_rfl) (by kernel_rfl) (by kernel_rfl) ai WO WQ (by kernel_rfl) H
def Fw:bx:=
 .seq (.ar [dE 2])
 (.seq (.ar [aj 3 0,⟨some 4,.bin (.int .geq) (.t 3) (.c (.int .u8 97)),none,[3]⟩,aj 5 4,ed 6 0 5,⟨some 7,.bin (.int .leq) (.t 6) (.c (.int .u8 122)),(some (5,true)),[6,5]⟩,dp 8 5 7,aj 2 8])
 (.ret))
theorem WS:b9 Tryz.prog Tryz.f143.ntmps (Tryz.f143.body.getD .skip)=Fw:=by kernel_rfl
theorem WT:cE Tryz.prog Tryz.f143.ntmps Tryz.f143.results.toList=[.t 2]:=by kernel_rfl
theorem WR {args:List V} {h:af} {K:V→af→Prop} (ai:Nat.ble args.length 9=true) (H:b7 Tryz.prog Fw (aR.a1 args) h fun e r aa=>e.ends∧∃ad,cu r aa [.t 2]=some ad∧K (oneOf ad) aa):bB Tryz.prog 143 args h K:=
 c' follows cU Tryz.func143 (c:=Tryz.f143.body.getD .skip) (by kernel_rfl) (by kernel_rfl) (by kernel_rfl) ai WS WT (by kernel_rfl) H
def Fx:bx:=
 .seq (.ar [yg 4])
 (.seq (.ar [aj 6 0,⟨some 7,.call 156 [(.t 6),(.c (.func 158 []))],none,[6]⟩,aj 5 7])
 (.seq (.block 0 (.seq (.ar [aj 9 1,⟨some 10,.bin (.int .eql) (.t 9) (.c (.int .i64 3)),none,[9]⟩,aj 11 10,ed 12 5 11,⟨some 13,.bin (.str .eql) (.t 12) (.c (.str [95])),(some (11,true)),[12,11]⟩,dp 14 11 13,aj 8 14])
 (.cond (.t 8)
 (.seq (.ar [aj 15 5,Ld 16 15,⟨none,.st 4 (.t 4) (.t 16),none,[4,16]⟩])
 (.ret))
 (.seq (.ar [aj 18 1,⟨some 19,.bin (.int .eql) (.t 18) (.c (.int .i64 3)),none,[18]⟩,aj 20 19,ed 21 5 20,⟨some 22,.bin (.str .add) (.c (.str [32])) (.t 21),(some (20,true)),[21,20]⟩,⟨some 23,.bin (.str .add) (.t 22) (.c (.str [32])),(some (20,true)),[22,20]⟩,⟨some 24,.call 159 [(.c (.str [32,97,110,100,32,98,101,103,105,110,32,101,108,115,101,32,101,110,100,32,101,120,99,101,112,116,105,111,110,32,102,97,108,115,101,32,102,117,110,32,105,102,32,105,110,32,108,101,116,32,109,97,116,99,104,32,109,111,100,32,111,102,32,114,97,105,115,101,32,114,101,99,32,116,104,101,110,32,116,114,117,101,32,116,114,121,32,116,121,112,101,32,119,105,116,104,32])),(.t 23)],(some (20,true)),[23,20]⟩,dp 25 20 24,aj 17 25])
 (.cond (.t 17)
 (.seq (.ar [aj 26 5,⟨some 27,.build [(.int .i64 0),(.int .i64 0),(.int .i64 0),(.str [])] [(0,1,(.c (.int .i64 6))),(3,1,(.t 26))],none,[26]⟩,⟨none,.st 4 (.t 4) (.t 27),none,[4,27]⟩])
 (.ret))
 (.seq (.ar [aj 29 5,lD 30 29,⟨some 31,.bin (.int .gtr) (.t 30) (.c (.int .i64 64)),none,[30]⟩,aj 28 31])
 (.cond (.t 28)
 (.ar [aj 32 0,dt 33 32,gN 34 33,⟨none,.st 1 (.t 34) (.c (.int .i64 255)),none,[34]⟩])
 (.skip))))))))
 (.seq (.ar [aj 35 1,aj 36 5,⟨some 37,.build [(.int .i64 0),(.int .i64 0),(.int .i64 0),(.str [])] [(0,1,(.t 35)),(3,1,(.t 36))],none,[35,36]⟩,⟨none,.st 4 (.t 4) (.t 37),none,[4,37]⟩])
 (.ret))))
theorem WV:b9 Tryz.prog Tryz.f144.ntmps (Tryz.f144.body.getD .skip)=Fx:=by kernel_rfl
theorem WW:cE Tryz.prog Tryz.f144.ntmps Tryz.f144.results.toList=[.hH 4 4]:=by kernel_rfl
theorem WU {args:List V} {h:af} {K:V→af→Prop} (ai:Nat.ble args.length 38=true) (H:b7 Tryz.prog Fx (aR.a1 args) h fun e r aa=>e.ends∧∃ad,cu r aa [.hH 4 4]=some ad∧K (oneOf ad) aa):bB Tryz.prog 144 args h K:=
 c' follows cU Tryz.func144 (c:=Tryz.f144.body.getD .skip) (by kernel_rfl) (by kernel_rfl) (by kernel_rfl) ai WV WW (by kernel_rfl) H
def Fy:bx:=
 .seq (.ar [dE 2])
 (.seq (.ar [aj 3 0,⟨some 4,.bin (.int .geq) (.t 3) (.c (.int .u8 65)),none,[3]⟩,aj 5 4,ed 6 0 5,⟨some 7,.bin (.int .leq) (.t 6) (.c (.int .u8 90)),(some (5,true)),[6,5]⟩,dp 8 5 7,aj 2 8])
 (.ret))
theorem WY:b9 Tryz.prog Tryz.f145.ntmps (Tryz.f145.body.getD .skip)=Fy:=by kernel_rfl
theorem WZ:cE Tryz.prog Tryz.f145.ntmps Tryz.f145.results.toList=[.t 2]:=by kernel_rfl
theorem WX {args:List V} {h:af} {K:V→af→Prop} (ai:Nat.ble args.length 9=true) (H:b7 Tryz.prog Fy (aR.a1 args) h fun e r aa=>e.ends∧∃ad,cu r aa [.t 2]=some ad∧K (oneOf ad) aa):bB Tryz.prog 145 args h K:=
 c' follows cU Tryz.func145 (c:=Tryz.f145.body.getD .skip) (by kernel_rfl) (by kernel_rfl) (by kernel_rfl) ai WY WZ (by kernel_rfl) H
def Fz:bx:=
 .seq (.ar [iJ 0])
 (.seq (.ar [⟨some 1,.hG 17 1 [(.str [])] [(0,1,(.c (.str [59,59]))),(1,1,(.c (.str [58,61]))),(2,1,(.c (.str [45,62]))),(3,1,(.c (.str [60,61]))),(4,1,(.c (.str [59]))),(5,1,(.c (.str [40]))),(6,1,(.c (.str [41]))),(7,1,(.c (.str [44]))),(8,1,(.c (.str [61]))),(9,1,(.c (.str [60]))),(10,1,(.c (.str [43]))),(11,1,(.c (.str [45]))),(12,1,(.c (.str [42]))),(13,1,(.c (.str [47]))),(14,1,(.c (.str [124]))),(15,1,(.c (.str [33]))),(16,1,(.c (.str [95])))],none,[]⟩,aj 0 1])
 (.ret))
theorem W1:b9 Tryz.prog Tryz.f146.ntmps (Tryz.f146.body.getD .skip)=Fz:=by kernel_rfl
theorem W2:cE Tryz.prog Tryz.f146.ntmps Tryz.f146.results.toList=[.t 0]:=by kernel_rfl
theorem W0 {args:List V} {h:af} {K:V→af→Prop} (ai:Nat.ble args.length 2=true) (H:b7 Tryz.prog Fz (aR.a1 args) h fun e r aa=>e.ends∧∃ad,cu r aa [.t 0]=some ad∧K (oneOf ad) aa):bB Tryz.prog 146 args h K:=
 c' follows cU Tryz.func146 (c:=Tryz.f146.body.getD .skip) (by kernel_rfl) (by kernel_rfl) (by kernel_rfl) ai W1 W2 (by kernel_rfl) H
def FA:bx:=
 .seq (.ar [dE 4])
 (.seq (.ar [aj 5 0,lD 6 5,aj 7 1,lD 8 7,yf 9 6 8,aj 10 9,ed 11 0 10,ed 12 1 10,⟨some 13,.len .str (.t 12),(some (10,true)),[12,10]⟩,⟨some 14,.oQ (.t 11) none (some (.t 13)) none,(some (10,true)),[11,13,10]⟩,ed 15 1 10,ti 16 14 15 10,dp 17 10 16,aj 4 17])
 (.ret))
theorem W4:b9 Tryz.prog Tryz.f154.ntmps (Tryz.f154.body.getD .skip)=FA:=by kernel_rfl
theorem W5:cE Tryz.prog Tryz.f154.ntmps Tryz.f154.results.toList=[.t 4]:=by kernel_rfl
theorem W3 {args:List V} {h:af} {K:V→af→Prop} (ai:Nat.ble args.length 18=true) (H:b7 Tryz.prog FA (aR.a1 args) h fun e r aa=>e.ends∧∃ad,cu r aa [.t 4]=some ad∧K (oneOf ad) aa):bB Tryz.prog 154 args h K:=
 c' follows cU Tryz.func154 (c:=Tryz.f154.body.getD .skip) (by kernel_rfl) (by kernel_rfl) (by kernel_rfl) ai W4 W5 (by kernel_rfl) H
def Mm:bx:=
 .seq (.seq (.draw [aj 10 0,dt 11 10,dy 12 11,br 13 12,aj 14 0,dt 15 14,f_ 16 15,br 17 16,lD 18 17,gl 19 13 18,aj 20 19,ed 21 1 20,ed 22 0 20,vq 23 22 20,vp 24 23 20,eL 25 24 20,ed 26 0 20,vq 27 26 20,nX 28 27 20,eL 29 28 20,⟨some 30,.ll (.t 25) (.t 29),(some (20,true)),[25,29,20]⟩,⟨some 31,.nb (.t 21) [(.t 30)],(some (20,true)),[21,30,20]⟩,dp 32 20 31] [(3,[21]),(7,[21]),(15,[21]),(19,[21])])
 (.cond (.t 32)
 (.skip)
 (.exit 0)))
 (.block 1 (.ar [aj 33 0,dt 34 33,dy 35 34,br 36 35,ep 37 36,dt 38 33,dy 39 38,⟨none,.st 1 (.t 39) (.t 37),none,[39,37]⟩]))
def FB:bx:=
 .seq (.ar [nZ 4])
 (.seq (.ar [aj 6 0,dt 7 6,dy 8 7,br 9 8,aj 5 9])
 (.seq (.block 0 (.loop Mm))
 (.seq (.draw [aj 40 0,dt 41 40,f_ 42 41,br 43 42,aj 44 5,aj 45 0,dt 46 45,dy 47 46,br 48 47,⟨some 49,.oQ (.t 43) (some (.t 44)) (some (.t 48)) none,none,[43,44,48]⟩,aj 4 49] [])
 (.ret))))
theorem W7:b9 Tryz.prog Tryz.f156.ntmps (Tryz.f156.body.getD .skip)=FB:=by kernel_rfl
theorem W8:cE Tryz.prog Tryz.f156.ntmps Tryz.f156.results.toList=[.t 4]:=by kernel_rfl
theorem W6 {args:List V} {h:af} {K:V→af→Prop} (ai:Nat.ble args.length 50=true) (H:b7 Tryz.prog FB (aR.a1 args) h fun e r aa=>e.ends∧∃ad,cu r aa [.t 4]=some ad∧K (oneOf ad) aa):bB Tryz.prog 156 args h K:=
 c' follows cU Tryz.func156 (c:=Tryz.f156.body.getD .skip) (by kernel_rfl) (by kernel_rfl) (by kernel_rfl) ai W7 W8 (by kernel_rfl) H
def FC:bx:=
 .seq (.ar [⟨some 2,.fH (.c (.int .u8 0)),none,[]⟩])
 (.seq (.ar [aj 7 0,dt 8 7,dy 9 8,br 10 9,ep 11 10,dt 12 7,dy 13 12,⟨none,.st 1 (.t 13) (.t 11),none,[13,11]⟩])
 (.seq (.draw [aj 14 0,dt 15 14,f_ 16 15,br 17 16,aj 18 0,dt 19 18,dy 20 19,br 21 20,En 22 17 21,aj 3 22] [])
 (.seq (.seq (.ar [aj 23 3,⟨some 24,.bin (.str .neq) (.t 23) (.c (.str [])),none,[23]⟩])
 (.cond (.t 24)
 (.seq (.ar [aj 25 3,A3 26 25,⟨some 27,.call 124 [(.c (.str [110,116,34,92])),(.t 26)],none,[26]⟩,aj 4 27])
 (.seq (.ar [aj 28 4,ye 29 28])
 (.cond (.t 29)
 (.seq (.ar [aj 30 0,dt 31 30,dy 32 31,br 33 32,ep 34 33,dt 35 30,dy 36 35,⟨none,.st 1 (.t 36) (.t 34),none,[36,34]⟩])
 (.seq (.ar [aj 37 4,⟨some 38,.ll (.c (.str [10,9,34,92])) (.t 37),none,[37]⟩,aj 2 38])
 (.ret)))
 (.skip))))
 (.skip)))
 (.seq (.seq (.ar [aj 39 3,lD 40 39,⟨some 41,.bin (.int .geq) (.t 40) (.c (.int .i64 3)),none,[40]⟩,aj 42 41,ed 43 3 42,⟨some 44,.ll (.t 43) (.c (.int .i64 0)),(some (42,true)),[43,42]⟩,⟨some 45,.call 140 [(.t 44)],(some (42,true)),[44,42]⟩,dp 46 42 45,aj 47 46,ed 48 3 47,⟨some 49,.ll (.t 48) (.c (.int .i64 1)),(some (47,true)),[48,47]⟩,⟨some 50,.call 140 [(.t 49)],(some (47,true)),[49,47]⟩,dp 51 47 50,aj 52 51,ed 53 3 52,⟨some 54,.ll (.t 53) (.c (.int .i64 2)),(some (52,true)),[53,52]⟩,⟨some 55,.call 140 [(.t 54)],(some (52,true)),[54,52]⟩,dp 56 52 55])
 (.cond (.t 56)
 (.seq (.ar [aj 58 3,⟨some 59,.oQ (.t 58) none (some (.c (.int .i64 3))) none,none,[58]⟩,⟨some 60,.call 166 [(.t 59)],none,[59]⟩,aj 57 60,j0 61 57,j1 62 57,aj 5 61,aj 6 62])
 (.seq (.ar [aj 63 5,⟨some 64,.bin (.int .lss) (.t 63) (.c (.int .i64 256)),none,[63]⟩])
 (.cond (.t 64)
 (.seq (.ar [aj 65 0,dt 66 65,dy 67 66,br 68 67,⟨some 69,.bin (.int .add) (.t 68) (.c (.int .i64 3)),none,[68]⟩,dt 70 65,dy 71 70,⟨none,.st 1 (.t 71) (.t 69),none,[71,69]⟩])
 (.seq (.ar [aj 72 5,⟨some 73,.hW (.int .u8) (.t 72),none,[72]⟩,aj 2 73])
 (.ret)))
 (.skip))))
 (.skip)))
 (.seq (.ar [aj 74 0,dt 75 74,gN 76 75,⟨none,.st 1 (.t 76) (.c (.int .i64 252)),none,[76]⟩])
 (.seq (.ar [⟨some 2,.fH (.c (.int .u8 0)),none,[]⟩])
 (.ret)))))))
theorem W':b9 Tryz.prog Tryz.f157.ntmps (Tryz.f157.body.getD .skip)=FC:=by kernel_rfl
theorem W_:cE Tryz.prog Tryz.f157.ntmps Tryz.f157.results.toList=[.t 2]:=by kernel_rfl
theorem W9 {args:List V} {h:af} {K:V→af→Prop} (ai:Nat.ble args.length 77=true) (H:b7 Tryz.prog FC (aR.a1 args) h fun e r aa=>e.ends∧∃ad,cu r aa [.t 2]=some ad∧K (oneOf ad) aa):bB Tryz.prog 157 args h K:=
 c' follows cU Tryz.func157 (c:=Tryz.f157.body.getD .skip) (by kernel_rfl) (by kernel_rfl) (by kernel_rfl) ai W' W_ (by kernel_rfl) H
def FD:bx:=
 .seq (.ar [dE 2])
 (.seq (.ar [aj 3 0,⟨some 4,.call 140 [(.t 3)],none,[3]⟩,aj 5 4,je 6 0 5,⟨some 7,.call 143 [(.t 6)],(some (5,false)),[6,5]⟩,gw 8 5 7,aj 9 8,je 10 0 9,⟨some 11,.call 145 [(.t 10)],(some (9,false)),[10,9]⟩,gw 12 9 11,aj 13 12,je 14 0 13,A4 15 14 13,gw 16 13 15,aj 17 16,je 18 0 17,⟨some 19,.bin (.int .eql) (.t 18) (.c (.int .u8 39)),(some (17,false)),[18,17]⟩,gw 20 17 19,aj 2 20])
 (.ret))
theorem Xb:b9 Tryz.prog Tryz.f158.ntmps (Tryz.f158.body.getD .skip)=FD:=by kernel_rfl
theorem Xc:cE Tryz.prog Tryz.f158.ntmps Tryz.f158.results.toList=[.t 2]:=by kernel_rfl
theorem Xa {args:List V} {h:af} {K:V→af→Prop} (ai:Nat.ble args.length 21=true) (H:b7 Tryz.prog FD (aR.a1 args) h fun e r aa=>e.ends∧∃ad,cu r aa [.t 2]=some ad∧K (oneOf ad) aa):bB Tryz.prog 158 args h K:=
 c' follows cU Tryz.func158 (c:=Tryz.f158.body.getD .skip) (by kernel_rfl) (by kernel_rfl) (by kernel_rfl) ai Xb Xc (by kernel_rfl) H
theorem mJ {f:FuncId} {args:List V} {h:af} {v:V} (c:bB Tryz.prog f args h fun x aa=>x=v∧aa=h):fh Tryz.prog f args h v h:=by
 obtain ⟨x,aa,q,rfl,rfl⟩:=c
 exact q
def lN (c:Int):Bool:=decide (48≤c)&&decide (c≤57)
def gC (c:Int):Bool:=decide (97≤c)&&decide (c≤122)
def lQ (c:Int):Bool:=decide (65≤c)&&decide (c≤90)
def sr (c:Int):Bool:=lN c||gC c||lQ c||decide (c=95)||decide (c=39)
def l_ (c a b:Int):Bool:=decide (a≤c)&&decide (c≤b)
theorem vS (c:Int) (h:af):fh Tryz.prog 140 [.int .u8 c] h (.bool (lN c)) h:=by
 refine mJ (WH rfl (cL ?_))
 unfold Ft
 simp +contextual only [↓ak,ax,simprocAttr]
 rfl
theorem DS (c:Int) (h:af):fh Tryz.prog 143 [.int .u8 c] h (.bool (gC c)) h:=by
 refine mJ (WR rfl (cL ?_))
 unfold Fw
 simp +contextual only [↓ak,ax,simprocAttr]
 rfl
theorem N6 (c:Int) (h:af):fh Tryz.prog 145 [.int .u8 c] h (.bool (lQ c)) h:=by
 refine mJ (WX rfl (cL ?_))
 unfold Fy
 simp +contextual only [↓ak,ax,simprocAttr]
 rfl
theorem xN (c a b:Int) (h:af):fh Tryz.prog 106 [.int .u8 c,.int .u8 a,.int .u8 b] h (.bool (l_ c a b)) h:=by
 refine mJ (V8 rfl (cL ?_))
 unfold Fh
 simp +contextual only [↓ak,ax,simprocAttr]
 rfl
theorem ab9 (s p:List UInt8) (h:af):fh Tryz.prog 154 [.str s,.str p] h (.bool (p.isPrefixOf s)) h:=by
 refine mJ (W3 rfl (cL ?_))
 unfold FA
 have bb:(0≤(p.length:Int))=True:=eq_true (by omega)
 by_cases ai:p.length≤s.length
 · have ab:((p.length:Int)≤(s.length:Int))=True:=eq_true (by omega)
   simp +contextual only [bb,ab,Int.toNat_natCast,↓ak,ax,simprocAttr]
   rw [Bool.eq_iff_iff,decide_eq_true_eq,List.isPrefixOf_iff_prefix,List.prefix_iff_eq_take]
   exact ⟨fun e=>e.symm,fun e=>e.symm⟩
 · have ab:((p.length:Int)≤(s.length:Int))=False:=eq_false (by omega)
   simp +contextual only [bb,ab,Int.toNat_natCast,↓ak,ax,simprocAttr]
   rw [eq_comm,←Bool.not_eq_true,List.isPrefixOf_iff_prefix]
   exact fun e=>ai e.length_le
theorem ab8 (s p:List UInt8) (h:af):fh Tryz.prog 139 [.str s,.str p] h (.bool (p.isPrefixOf s)) h:=by
 refine mJ (WD rfl (cL ?_))
 unfold Fs
 simp +contextual only [↓ak,ax,simprocAttr]
 refine fq (ab9 s p h) ?_
 simp +contextual only [↓ak,ax,simprocAttr]
theorem agN (c:Int) (h:af):fh Tryz.prog 158 [.int .u8 c] h (.bool (sr c)) h:=by
 refine mJ (Xa rfl (cL ?_))
 unfold FD
 simp +contextual only [↓ak,ax,simprocAttr]
 refine fq (vS c h) ?_
 simp +contextual only [↓ak,ax,simprocAttr]
 refine B5 (.bool (gC c)) (fun aI=>by simp only [aI,↓ak,ax,simprocAttr];exact DS _ _) ?_
 simp +contextual only [↓ak,ax,simprocAttr]
 refine B5 (.bool (lQ c)) (fun aI=>by simp only [aI,↓ak,ax,simprocAttr];exact N6 _ _) ?_
 simp +contextual only [↓ak,ax,simprocAttr]
 rfl
theorem TV (c:Int) (h:af):fh Tryz.prog 105 [.int .u8 c] h (.bool (l_ c 97 122||l_ c 65 90||l_ c 48 57||decide (c=95)||decide (c=39))) h:=by
 refine mJ (V5 rfl (cL ?_))
 unfold Fg
 simp +contextual only [↓ak,ax,simprocAttr]
 refine fq (xN c _ _ h) ?_
 simp +contextual only [↓ak,ax,simprocAttr]
 refine B5 (.bool (l_ c 65 90)) (fun aI=>by simp only [aI,↓ak,ax,simprocAttr];exact xN _ _ _ _) ?_
 simp +contextual only [↓ak,ax,simprocAttr]
 refine B5 (.bool (l_ c 48 57)) (fun aI=>by simp only [aI,↓ak,ax,simprocAttr];exact xN _ _ _ _) ?_
 simp +contextual only [↓ak,ax,simprocAttr]
theorem He (s p:List UInt8) (at':Int) (rest:List V) (b:aP) (cy:Nat) (st:Bool) (h:af) (ag:h.get b=.a1 (.str s::.int .i64 at'::rest) cy st) (bb:0≤at') (ab:at'≤s.length):
 fh Tryz.prog 125 [.ptr b 0,.str p] h (.bool (p.isPrefixOf (s.drop at'.toNat))) h:=by
 refine mJ (Wo rfl (cL ?_))
 unfold Fo
 have f0:(0≤at')=True:=eq_true bb
 have f1:(at'≤(s.length:Int))=True:=eq_true ab
 simp +contextual only [ag,f0,f1,↓ak,ax,simprocAttr]
 refine fq (ab8 _ p h) ?_
 simp +contextual only [ag,f0,f1,↓ak,ax,simprocAttr]
def hO:List UInt8→Int→Option Nat
 | [],_=>none
 | [_],_=>none
 | x::y::r,d=>if x=40∧y=42 then (hO r (d+1)).map (· +2) else if x=42∧y=41 then (if d-1=0 then some 2 else (hO r (d-1)).map (· +2)) else (hO (y::r) d).map (· +1)
theorem ahw (r:List UInt8) (d:Int) (h:r≠[]):hO r d=if ([40,42]:List UInt8).isPrefixOf r=true then (hO (r.drop 2) (d+1)).map (· +2) else
 if ([42,41]:List UInt8).isPrefixOf r=true then (if d-1=0 then some 2 else (hO (r.drop 2) (d-1)).map (· +2)) else (hO (r.drop 1) d).map (· +1):=by
 match r,h with
 | [x],_=>simp [hO,List.isPrefixOf]
 | x::y::r,_=>
   have aK:(([40,42]:List UInt8).isPrefixOf (x::y::r)=true)=(x=40∧y=42):=by
    simp only [List.isPrefixOf,Bool.and_true,Bool.and_eq_true,beq_iff_eq]
    exact propext ⟨fun q=>⟨q.1.symm,q.2.symm⟩,fun q=>⟨q.1.symm,q.2.symm⟩⟩
   have aS:(([42,41]:List UInt8).isPrefixOf (x::y::r)=true)=(x=42∧y=41):=by
    simp only [List.isPrefixOf,Bool.and_true,Bool.and_eq_true,beq_iff_eq]
    exact propext ⟨fun q=>⟨q.1.symm,q.2.symm⟩,fun q=>⟨q.1.symm,q.2.symm⟩⟩
   rw [hO]
   simp only [aK,aS,List.drop_succ_cons,List.drop_zero]
theorem Re {a b:UInt8} {r:List UInt8} (h:([a,b]:List UInt8).isPrefixOf r=true):2≤r.length:=by
 rw [List.isPrefixOf_iff_prefix] at h
 simpa using h.length_le
noncomputable def eY (s:List UInt8) (at' e:Int):cb:=.a1 [.str s,.int .i64 at',.int .i64 e] 0 false
theorem ahx (s:List UInt8) (a0:Nat) (cS:Int) (b:aP) (h:af) (ag:h.get b=eY s a0 cS) (bb:a0≤s.length) (aQ:s.length≤100000) (gn:Old h b):
 bB Tryz.prog 126 [.ptr b 0] h fun x aa=>x=.tuple []∧Mod (fun x=>x=b) h aa∧(match hO (s.drop a0) 0 with
  | some n=>aa.get b=eY s ((a0+n:Nat):Int) cS∧a0+n≤s.length
  | none=>aa.get b=eY s (s.length:Int) 253):=by
 refine Wr rfl (cL ?_)
 unfold Fp
 unfold eY at ag ⊢
 simp +contextual only [ag,↓ak,ax,simprocAttr]
 refine fG (fun r aa=>∃(a:Nat) (d:Int),a0≤a∧a≤s.length∧r 0=.ptr b 0∧r 2=.int .i64 d∧aa.get b=.a1 [.str s,.int .i64 a,.int .i64 cS] 0 false∧Mod (fun x=>x=b) h aa∧-(a:Int)≤d∧d≤a∧
  hO (s.drop a0) 0=(hO (s.drop a) d).map (· + (a-a0))) (fun r aa=>s.length - ((iw (aa.get b) 1).getD .bad).toN) ?_ ?_
 · refine ⟨a0,0,Nat.le_refl _,bb,?_⟩
   simp only [↓ak,ax,simprocAttr]
   refine ⟨ag,Mod.refl _ _,by omega,by omega,?_⟩
   rw [Nat.sub_self]
   cases hO (s.drop a0) 0<;>rfl
 · rintro r aa ⟨a,d,pT,bz,bE,bT,aH,hm,d0,d1,bF⟩
   unfold Mi
   by_cases fL:(s.length:Int)≤(a:Int)
   · have bq:a=s.length:=by omega
     have aU:hO (s.drop a) d=none:=by
      rw [bq,List.drop_length]
      rfl
     rw [aU] at bF
     simp +contextual only [bE,bT,aH,fL,↓ak,ax,simprocAttr]
     rw [bF]
     refine ⟨hm.set (fun _=>rfl) _,?_⟩
     simp only [bq,Option.map_none,c4,if_true]
   · have dI:s.drop a≠[]:=by
      intro q
      rw [List.drop_eq_nil_iff] at q
      omega
     have zn:∀p,fh Tryz.prog 125 [.ptr b 0,.str p] aa (.bool (p.isPrefixOf (s.drop a))) aa:=fun p=>by
      have:=He s p (a:Int) [.int .i64 cS] b 0 false aa aH (by omega) (by omega)
      simpa using this
     have hd:=ahw (s.drop a) d dI
     simp +contextual only [bE,bT,aH,fL,↓ak,ax,simprocAttr]
     refine fq (zn _) ?_
     cases ht:([40,42]:List UInt8).isPrefixOf (s.drop a) with
     | true=>
       have ae:=Re ht
       rw [List.length_drop] at ae
       rw [ht,if_pos rfl] at hd
       have b3:IntKind.i64.wrap (d+1)=d+1:=wrap_i64 (by omega) (by omega)
       have b4:IntKind.i64.wrap ((a:Int)+2)=((a+2:Nat):Int):=by rw [wrap_i64 (by omega) (by omega)];rfl
       simp +contextual only [bE,bT,aH,b3,b4,↓ak,ax,simprocAttr]
       refine ⟨⟨a+2,d+1,by omega,by omega,rfl,rfl,hm.set (fun _=>rfl) _,by omega,by omega,?_⟩,by omega⟩
       rw [bF,hd,List.drop_drop,Option.map_map]
       congr 1
       funext q
       simp only [Function.comp]
       omega
     | false=>
       rw [ht,if_neg (by decide)] at hd
       simp +contextual only [bE,bT,aH,↓ak,ax,simprocAttr]
       refine fq (zn _) ?_
       cases hv:([42,41]:List UInt8).isPrefixOf (s.drop a) with
       | true=>
         have ae:=Re hv
         rw [List.length_drop] at ae
         rw [hv,if_pos rfl] at hd
         have b3:IntKind.i64.wrap (d-1)=d-1:=wrap_i64 (by omega) (by omega)
         have b4:IntKind.i64.wrap ((a:Int)+2)=((a+2:Nat):Int):=by rw [wrap_i64 (by omega) (by omega)];rfl
         by_cases aZ:d-1=0
         · rw [if_pos aZ] at hd
           obtain rfl:d=1:=by omega
           have aw:IntKind.i64.wrap 0=0:=rfl
           simp +contextual only [bE,bT,aH,aw,b4,↓ak,ax,simprocAttr]
           rw [bF,hd]
           refine ⟨hm.set (fun _=>rfl) _,?_⟩
           simp only [Option.map_some,c4,if_true]
           refine ⟨?_,by omega⟩
           rw [show a0 + (2 + (a-a0))=a+2 from by omega]
         · rw [if_neg aZ] at hd
           simp +contextual only [bE,bT,aH,b3,b4,aZ,↓ak,ax,simprocAttr]
           refine ⟨⟨a+2,d-1,by omega,by omega,rfl,rfl,hm.set (fun _=>rfl) _,by omega,by omega,?_⟩,by omega⟩
           rw [bF,hd,List.drop_drop,Option.map_map]
           congr 1
           funext q
           simp only [Function.comp]
           omega
       | false=>
         rw [hv,if_neg (by decide)] at hd
         have b4:IntKind.i64.wrap ((a:Int)+1)=((a+1:Nat):Int):=by rw [wrap_i64 (by omega) (by omega)];rfl
         simp +contextual only [bE,bT,aH,b4,↓ak,ax,simprocAttr]
         refine ⟨⟨a+1,d,by omega,by omega,rfl,rfl,hm.set (fun _=>rfl) _,by omega,by omega,?_⟩,by omega⟩
         rw [bF,hd,List.drop_drop,Option.map_map]
         congr 1
         funext q
         simp only [Function.comp]
         omega
theorem drop_cons {s:List UInt8} {a:Nat} (h:a<s.length):s.drop a=s[a]::s.drop (a+1):=List.drop_eq_getElem_cons h
theorem SR (p:UInt8→Bool):∀l:List UInt8,(l.takeWhile p).length≤l.length
 | []=>by simp
 | x::l=>by
   simp only [List.takeWhile_cons]
   split
   · simpa using SR p l
   · simp
theorem R7 (s:List UInt8) (a0:Nat) (cS:Int) (b:aP) (g:FuncId) (p:Int→Bool) (h:af) (ag:h.get b=eY s a0 cS) (bb:a0≤s.length) (aQ:s.length≤100000) (a_:(g=4294967296)=False)
 (ah:∀c h,fh Tryz.prog g [.int .u8 c] h (.bool (p c)) h):
 bB Tryz.prog 156 [.ptr b 0,.func g []] h fun x aa=>x=.str ((s.drop a0).takeWhile fun c=>p c.toNat)∧Mod (fun x=>x=b) h aa∧aa.get b=eY s ((a0 + ((s.drop a0).takeWhile fun c=>p c.toNat).length:Nat):Int) cS:=by
 refine W6 rfl (cL ?_)
 unfold FB
 unfold eY at ag ⊢
 simp +contextual only [ag,↓ak,ax,simprocAttr]
 refine fG (fun r aa=>∃(a:Nat),a0≤a∧a≤s.length∧r 0=.ptr b 0∧r 1=.func g []∧r 5=.int .i64 a0∧aa.get b=.a1 [.str s,.int .i64 a,.int .i64 cS] 0 false∧Mod (fun x=>x=b) h aa∧
  ((s.drop a0).takeWhile fun c=>p c.toNat)=(s.drop a0).take (a-a0)++((s.drop a).takeWhile fun c=>p c.toNat)) (fun r aa=>s.length - ((iw (aa.get b) 1).getD .bad).toN) ?_ ?_
 · refine ⟨a0,Nat.le_refl _,bb,?_⟩
   simp only [↓ak,ax,simprocAttr]
   refine ⟨ag,Mod.refl _ _,?_⟩
   rw [Nat.sub_self]
   rfl
 · rintro r aa ⟨a,pT,bz,bE,bl,c1,aH,hm,bF⟩
   unfold Mm
   have fin:((s.drop a).takeWhile fun c=>p c.toNat)=[]→V.str (((s.drop a0).take (a-a0)))=V.str ((s.drop a0).takeWhile fun c=>p c.toNat)∧Mod (fun x=>x=b) h aa∧cb.a1 [V.str s,V.int .i64 a,V.int .i64 cS] 0 false=cb.a1 [V.str s,V.int .i64 ((a0 + ((s.drop a0).takeWhile fun c=>p c.toNat).length:Nat):Int),V.int .i64 cS] 0 false:=by
    intro q
    rw [q,List.append_nil] at bF
    rw [bF,List.length_take,List.length_drop]
    refine ⟨rfl,hm,?_⟩
    rw [show a0+min (a-a0) (s.length-a0)=a from by omega]
   have f0:(0≤(a0:Int))=True:=eq_true (by omega)
   have f1:((a0:Int)≤(a:Int))=True:=eq_true (by omega)
   have f2:((a:Int)≤(s.length:Int))=True:=eq_true (by omega)
   have f3:(0≤(a:Int))=True:=eq_true (by omega)
   by_cases fL:(a:Int) < (s.length:Int)
   · have aL:a<s.length:=by omega
     rw [drop_cons aL,List.takeWhile_cons] at bF fin
     simp +contextual only [a_,if_false,bE,bl,c1,aH,fL,f0,f1,f2,f3,List.getElem?_eq_getElem aL,Int.toNat_natCast,↓ak,ax,simprocAttr]
     refine fq (ah _ _) ?_
     cases ox:p ((s[a]).toNat:Int) with
     | true=>
       rw [ox] at bF
       have b4:IntKind.i64.wrap ((a:Int)+1)=((a+1:Nat):Int):=by rw [wrap_i64 (by omega) (by omega)];rfl
       simp +contextual only [ox,bE,bl,c1,aH,fL,f0,f1,f2,f3,b4,List.getElem?_eq_getElem aL,Int.toNat_natCast,↓ak,ax,simprocAttr]
       refine ⟨⟨a+1,by omega,by omega,rfl,hm.set (fun _=>rfl) _,?_⟩,by omega⟩
       rw [bF,if_pos rfl]
       have wH:a-a0 < (s.drop a0).length:=by rw [List.length_drop];omega
       rw [show a+1-a0=a-a0+1 from by omega,←List.take_append_getElem wH,List.append_assoc]
       congr 1
       rw [List.getElem_drop]
       simp only [show a0 + (a-a0)=a from by omega]
       rfl
     | false=>
       rw [ox] at fin
       simp +contextual only [ox,bE,bl,c1,aH,fL,f0,f1,f2,f3,List.getElem?_eq_getElem aL,Int.toNat_natCast,↓ak,ax,simprocAttr]
       exact fin rfl
   · have bq:a=s.length:=by omega
     simp +contextual only [a_,if_false,bE,bl,c1,aH,fL,f0,f1,f2,f3,Int.toNat_natCast,↓ak,ax,simprocAttr]
     refine fin ?_
     rw [bq,List.drop_length]
     rfl
end Go.Proofs.YthemdhlheglhoaaGreatDoor
