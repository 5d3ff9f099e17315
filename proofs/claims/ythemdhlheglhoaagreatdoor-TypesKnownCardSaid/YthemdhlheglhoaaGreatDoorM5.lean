/- The chapter's functions, walked by the abstract machine: plain lemmas, no condition. -/
import Derived.Test.YthemdhlheglhoaaGreatDoorM4
import Derived.Shelf.Strings.Search3
import Derived.Shelf.Strings.OnBuilder
import Derived.Shelf.SlIterI.Nil
import Derived.Shelf.SortM.Plain
import Derived.Shelf.SortM.SortNone
import Derived.MakeChecks
import Derived.Shelf.Vars
import Derived.Lay
import Derived.LaidLaws
import Derived.Test.YthemdhlheglhoaaGreatDoorRows

namespace Go.Proofs.YthemdhlheglhoaaGreatDoor
open Go Am Go.RowKit
set_option linter.unusedVariables false

theorem block_lt {w : World} {p : Addr} {v : Value} (h : w.cell? p = some v) : p.block < w.heap.size := by
  unfold World.cell? at h
  by_cases q : p.block < w.heap.size
  · exact q
  · rw [Array.getElem?_eq_none (by omega)] at h
    cases h
/-- what the library's variables hold -/
def LibOk (w : World) : Prop := ∃ m, w.cell? ⟨0, 0, none⟩ = some (.int .i64 m)
noncomputable instance lay : Lay where
  ok w := LibOk w
  keep := by
    rintro w w' ⟨m, q⟩ hb
    exact ⟨m, by rw [hb.cell (block_lt q)]; exact q⟩
theorem libOk_of {W : World} (hsh : W.ShapedOpen Tryz.prog) : LibOk W :=
  Go.Proofs.cell_of_shapedOpen_int hsh (g := 0) (t := 3) (zero := #[.int .i64 0]) (of_decide_eq_true (by kernel_rfl)) (by kernel_rfl) rfl (by kernel_rfl) (by kernel_rfl) Tryz.underlying3

section
open Go.Shelf
def Tryz.lays144_ren : Go.Shelf.Ren := ⟨fun | 144 => 159 | 143 => 167 | 219 => 177 | 217 => 138 | 225 => 181 | 224 => 182 | 267 => 183 | 266 => 153 | 314 => 184 | n => n, fun | 9 => 9 | 4 => 4 | 3 => 3 | 5 => 5 | 46 => 141 | 146 => 221 | 51 => 164 | n => n, fun | 1 => 0 | n => n⟩
theorem Tryz.lays144 : Go.Proofs.Lays.n144 Tryz.prog Tryz.lays144_ren := {
  mixed := by kernel_rfl,
  f143 := Tryz.func167.trans (congrArg some (by kernel_rfl)),
  f144 := Tryz.func159.trans (congrArg some (by kernel_rfl)),
  f217 := Tryz.func138.trans (congrArg some (by kernel_rfl)),
  f219 := Tryz.func177.trans (congrArg some (by kernel_rfl)),
  f224 := Tryz.func182.trans (congrArg some (by kernel_rfl)),
  f225 := Tryz.func181.trans (congrArg some (by kernel_rfl)),
  f266 := Tryz.func153.trans (congrArg some (by kernel_rfl)),
  f267 := Tryz.func183.trans (congrArg some (by kernel_rfl)),
  f314 := Tryz.func184.trans (congrArg some (by kernel_rfl)),
  t3 := Tryz.underlying3,
  a3 := Tryz.isAgg3,
  z3 := Tryz.sizeOf3,
  v3 := Tryz.zeroValue3,
  t4 := Tryz.underlying4,
  a4 := Tryz.isAgg4,
  z4 := Tryz.sizeOf4,
  v4 := Tryz.zeroValue4,
  t5 := Tryz.underlying5,
  a5 := Tryz.isAgg5,
  z5 := Tryz.sizeOf5,
  v5 := Tryz.zeroValue5,
  t9 := Tryz.underlying9,
  a9 := Tryz.isAgg9,
  z9 := Tryz.sizeOf9,
  v9 := Tryz.zeroValue9,
  t46 := Tryz.underlying141,
  a46 := Tryz.isAgg141,
  z46 := Tryz.sizeOf141,
  v46 := Tryz.zeroValue141,
  t51 := Tryz.underlying164,
  a51 := Tryz.isAgg164,
  z51 := Tryz.sizeOf164,
  v51 := Tryz.zeroValue164,
  t146 := Tryz.underlying221,
  a146 := Tryz.isAgg221,
  z146 := Tryz.sizeOf221,
  v146 := Tryz.zeroValue221,
  g1 := by kernel_rfl }
def Tryz.lays156_ren : Go.Shelf.Ren := ⟨fun | 156 => 72 | 165 => 95 | 166 => 96 | 169 => 97 | 240 => 110 | 241 => 111 | 276 => 129 | 277 => 130 | n => n, fun | 31 => 98 | 9 => 9 | 3 => 3 | 4 => 4 | 0 => 0 | 20 => 20 | 72 => 130 | 76 => 134 | 70 => 127 | 37 => 128 | 75 => 133 | 127 => 155 | 164 => 174 | 5 => 5 | 80 => 136 | n => n, fun | n => n⟩
theorem Tryz.lays156 : Go.Proofs.Lays.n156 Tryz.prog Tryz.lays156_ren := {
  mixed := by kernel_rfl,
  f156 := Tryz.func72.trans (congrArg some (by kernel_rfl)),
  f165 := Tryz.func95.trans (congrArg some (by kernel_rfl)),
  f166 := Tryz.func96.trans (congrArg some (by kernel_rfl)),
  f169 := Tryz.func97.trans (congrArg some (by kernel_rfl)),
  f240 := Tryz.func110.trans (congrArg some (by kernel_rfl)),
  f241 := Tryz.func111.trans (congrArg some (by kernel_rfl)),
  f276 := Tryz.func129.trans (congrArg some (by kernel_rfl)),
  f277 := Tryz.func130.trans (congrArg some (by kernel_rfl)),
  t0 := Tryz.underlying0,
  a0 := Tryz.isAgg0,
  z0 := Tryz.sizeOf0,
  v0 := Tryz.zeroValue0,
  t3 := Tryz.underlying3,
  a3 := Tryz.isAgg3,
  z3 := Tryz.sizeOf3,
  v3 := Tryz.zeroValue3,
  t4 := Tryz.underlying4,
  a4 := Tryz.isAgg4,
  z4 := Tryz.sizeOf4,
  v4 := Tryz.zeroValue4,
  t9 := Tryz.underlying9,
  a9 := Tryz.isAgg9,
  z9 := Tryz.sizeOf9,
  v9 := Tryz.zeroValue9,
  t20 := Tryz.underlying20,
  a20 := Tryz.isAgg20,
  z20 := Tryz.sizeOf20,
  v20 := Tryz.zeroValue20,
  t31 := Tryz.underlying98,
  a31 := Tryz.isAgg98,
  z31 := Tryz.sizeOf98,
  v31 := Tryz.zeroValue98,
  t37 := Tryz.underlying128,
  a37 := Tryz.isAgg128,
  z37 := Tryz.sizeOf128,
  v37 := Tryz.zeroValue128,
  t70 := Tryz.underlying127,
  a70 := Tryz.isAgg127,
  z70 := Tryz.sizeOf127,
  v70 := Tryz.zeroValue127,
  t72 := Tryz.underlying130,
  a72 := Tryz.isAgg130,
  z72 := Tryz.sizeOf130,
  v72 := Tryz.zeroValue130,
  t75 := Tryz.underlying133,
  a75 := Tryz.isAgg133,
  z75 := Tryz.sizeOf133,
  v75 := Tryz.zeroValue133,
  t76 := Tryz.underlying134,
  a76 := Tryz.isAgg134,
  z76 := Tryz.sizeOf134,
  v76 := Tryz.zeroValue134,
  t127 := Tryz.underlying155,
  a127 := Tryz.isAgg155,
  z127 := Tryz.sizeOf155,
  v127 := Tryz.zeroValue155,
  t164 := Tryz.underlying174,
  a164 := Tryz.isAgg174,
  z164 := Tryz.sizeOf174,
  v164 := Tryz.zeroValue174 }
theorem Tryz.extra156 : Builder.Extra Tryz.prog Tryz.lays156_ren where
  sizeBuilder := by kernel_rfl
  liesBuilder := by kernel_rfl
  t5 := Tryz.underlying5
  a5 := Tryz.isAgg5
  z5 := Tryz.sizeOf5
  v5 := Tryz.zeroValue5
  infoByte := by kernel_rfl
  cellsByte := by kernel_rfl
  sizeByte := by kernel_rfl
  neB5 := by decide
def Tryz.keysA_ren : Go.Shelf.Ren := ⟨fun | 7 => 51 | 10 => 78 | n => n, fun | 23 => 65 | 26 => 3 | 3 => 67 | 28 => 76 | 0 => 0 | 27 => 75 | 33 => 111 | 4 => 4 | n => n, fun | n => n⟩
theorem Tryz.keysA : Go.Proofs.SlLaysZI.n7 Tryz.prog Tryz.keysA_ren where
  mixed := by kernel_rfl
  f7 := ⟨"maps.Keys[gimlet/types.maker,int,*gimlet/types.node]", by decide, Tryz.func51.trans (congrArg some (by kernel_rfl))⟩
  f10 := ⟨"maps.Keys[gimlet/types.maker,int,*gimlet/types.node]$1", by decide, Tryz.func78.trans (congrArg some (by kernel_rfl))⟩
  t0 := Tryz.underlying0
  a0 := Tryz.isAgg0
  z0 := Tryz.sizeOf0
  v0 := Tryz.zeroValue0
  t4 := Tryz.underlying4
  a4 := Tryz.isAgg4
  z4 := Tryz.sizeOf4
  v4 := Tryz.zeroValue4
  t23 := Tryz.underlying65
  a23 := Tryz.isAgg65
  z23 := Tryz.sizeOf65
  v23 := Tryz.zeroValue65
  t26 := Tryz.underlying3
  a26 := Tryz.isAgg3
  z26 := Tryz.sizeOf3
  v26 := Tryz.zeroValue3
  t27 := Tryz.underlying75
  a27 := Tryz.isAgg75
  z27 := Tryz.sizeOf75
  v27 := Tryz.zeroValue75
  t28 := Tryz.underlying76
  a28 := Tryz.isAgg76
  z28 := Tryz.sizeOf76
  v28 := Tryz.zeroValue76
  t33 := Tryz.underlying111
  a33 := Tryz.isAgg111
  z33 := Tryz.sizeOf111
  v33 := Tryz.zeroValue111
def Tryz.sortedA_ren : Go.Shelf.Ren := ⟨fun | 6 => 50 | 8 => 76 | 9 => 77 | 11 => 100 | 13 => 102 | 12 => 101 | 23 => 121 | 24 => 122 | 14 => 112 | 15 => 113 | 16 => 114 | 17 => 115 | 18 => 116 | 19 => 117 | 20 => 118 | 21 => 119 | 22 => 120 | 25 => 131 | 26 => 132 | 27 => 133 | 28 => 134 | 29 => 135 | 30 => 136 | 31 => 151 | n => n, fun | 26 => 3 | 28 => 76 | 24 => 51 | 0 => 0 | 3 => 3 | 37 => 141 | 48 => 164 | 50 => 166 | 4 => 4 | 40 => 158 | 39 => 157 | 45 => 112 | 5 => 5 | 9 => 9 | 51 => 177 | 55 => 90 | 57 => 190 | 58 => 92 | 33 => 111 | n => n, fun | n => n⟩
theorem Tryz.sortedA : Go.Proofs.SlLaysZI.n6 Tryz.prog Tryz.sortedA_ren where
  mixed := by kernel_rfl
  f6 := ⟨"slices.Sorted[int]", by decide, Tryz.func50.trans (congrArg some (by kernel_rfl))⟩
  f8 := ⟨"slices.Collect[int]", by decide, Tryz.func76.trans (congrArg some (by kernel_rfl))⟩
  f11 := ⟨"slices.AppendSeq[[]int,int]", by decide, Tryz.func100.trans (congrArg some (by kernel_rfl))⟩
  t0 := Tryz.underlying0
  a0 := Tryz.isAgg0
  z0 := Tryz.sizeOf0
  v0 := Tryz.zeroValue0
  t24 := Tryz.underlying51
  a24 := Tryz.isAgg51
  z24 := Tryz.sizeOf51
  v24 := Tryz.zeroValue51
  t26 := Tryz.underlying3
  a26 := Tryz.isAgg3
  z26 := Tryz.sizeOf3
  v26 := Tryz.zeroValue3
  t28 := Tryz.underlying76
  a28 := Tryz.isAgg76
  z28 := Tryz.sizeOf76
  v28 := Tryz.zeroValue76
  i26 := by kernel_rfl
def Tryz.sortA_ren : Go.Shelf.Ren := ⟨fun | 5 => 77 | 8 => 102 | 7 => 101 | 19 => 121 | 20 => 122 | 10 => 112 | 11 => 113 | 12 => 114 | 13 => 115 | 14 => 116 | 15 => 117 | 16 => 118 | 17 => 119 | 18 => 120 | 30 => 131 | 31 => 132 | 32 => 133 | 33 => 134 | 34 => 135 | 35 => 136 | 40 => 151 | n => n, fun | 23 => 51 | 25 => 3 | 3 => 3 | 32 => 141 | 22 => 51 | 0 => 0 | 44 => 164 | 46 => 166 | 4 => 4 | 36 => 158 | 35 => 157 | 41 => 112 | 5 => 5 | 9 => 9 | 53 => 177 | 57 => 90 | 63 => 190 | 64 => 92 | n => n, fun | n => n⟩
theorem Tryz.sortA : Go.Proofs.SlLaysM.n5 Tryz.prog Tryz.sortA_ren where
  mixed := by kernel_rfl
  f5 := ⟨"slices.Sort[[]int,int]", by decide, Tryz.func77.trans (congrArg some (by kernel_rfl))⟩
  f7 := ⟨"slices.pdqsortOrdered[int]", by decide, Tryz.func101.trans (congrArg some (by kernel_rfl))⟩
  f8 := Tryz.func102.trans (congrArg some (by kernel_rfl))
  f10 := ⟨"slices.insertionSortOrdered[int]", by decide, Tryz.func112.trans (congrArg some (by kernel_rfl))⟩
  f11 := ⟨"slices.heapSortOrdered[int]", by decide, Tryz.func113.trans (congrArg some (by kernel_rfl))⟩
  f12 := ⟨"slices.breakPatternsOrdered[int]", by decide, Tryz.func114.trans (congrArg some (by kernel_rfl))⟩
  f13 := ⟨"slices.choosePivotOrdered[int]", by decide, Tryz.func115.trans (congrArg some (by kernel_rfl))⟩
  f14 := ⟨"slices.reverseRangeOrdered[int]", by decide, Tryz.func116.trans (congrArg some (by kernel_rfl))⟩
  f15 := ⟨"slices.partialInsertionSortOrdered[int]", by decide, Tryz.func117.trans (congrArg some (by kernel_rfl))⟩
  f16 := ⟨"cmp.Less[int]", by decide, Tryz.func118.trans (congrArg some (by kernel_rfl))⟩
  f17 := ⟨"slices.partitionEqualOrdered[int]", by decide, Tryz.func119.trans (congrArg some (by kernel_rfl))⟩
  f18 := ⟨"slices.partitionOrdered[int]", by decide, Tryz.func120.trans (congrArg some (by kernel_rfl))⟩
  f19 := Tryz.func121.trans (congrArg some (by kernel_rfl))
  f20 := Tryz.func122.trans (congrArg some (by kernel_rfl))
  f30 := ⟨"slices.siftDownOrdered[int]", by decide, Tryz.func131.trans (congrArg some (by kernel_rfl))⟩
  f31 := Tryz.func132.trans (congrArg some (by kernel_rfl))
  f32 := Tryz.func133.trans (congrArg some (by kernel_rfl))
  f33 := ⟨"slices.medianAdjacentOrdered[int]", by decide, Tryz.func134.trans (congrArg some (by kernel_rfl))⟩
  f34 := ⟨"slices.medianOrdered[int]", by decide, Tryz.func135.trans (congrArg some (by kernel_rfl))⟩
  f35 := ⟨"cmp.isNaN[int]", by decide, Tryz.func136.trans (congrArg some (by kernel_rfl))⟩
  f40 := ⟨"slices.order2Ordered[int]", by decide, Tryz.func151.trans (congrArg some (by kernel_rfl))⟩
  t0 := Tryz.underlying0
  a0 := Tryz.isAgg0
  z0 := Tryz.sizeOf0
  v0 := Tryz.zeroValue0
  t3 := Tryz.underlying3
  a3 := Tryz.isAgg3
  z3 := Tryz.sizeOf3
  v3 := Tryz.zeroValue3
  t4 := Tryz.underlying4
  a4 := Tryz.isAgg4
  z4 := Tryz.sizeOf4
  v4 := Tryz.zeroValue4
  t5 := Tryz.underlying5
  a5 := Tryz.isAgg5
  z5 := Tryz.sizeOf5
  v5 := Tryz.zeroValue5
  t9 := Tryz.underlying9
  a9 := Tryz.isAgg9
  z9 := Tryz.sizeOf9
  v9 := Tryz.zeroValue9
  t22 := Tryz.underlying51
  a22 := Tryz.isAgg51
  z22 := Tryz.sizeOf51
  v22 := Tryz.zeroValue51
  t23 := Tryz.underlying51
  a23 := Tryz.isAgg51
  z23 := Tryz.sizeOf51
  v23 := Tryz.zeroValue51
  t25 := Tryz.underlying3
  a25 := Tryz.isAgg3
  z25 := Tryz.sizeOf3
  v25 := Tryz.zeroValue3
  t32 := Tryz.underlying141
  a32 := Tryz.isAgg141
  z32 := Tryz.sizeOf141
  v32 := Tryz.zeroValue141
  t35 := Tryz.underlying157
  a35 := Tryz.isAgg157
  z35 := Tryz.sizeOf157
  v35 := Tryz.zeroValue157
  t36 := Tryz.underlying158
  a36 := Tryz.isAgg158
  z36 := Tryz.sizeOf158
  v36 := Tryz.zeroValue158
  t41 := Tryz.underlying112
  a41 := Tryz.isAgg112
  z41 := Tryz.sizeOf112
  v41 := Tryz.zeroValue112
  t44 := Tryz.underlying164
  a44 := Tryz.isAgg164
  z44 := Tryz.sizeOf164
  v44 := Tryz.zeroValue164
  t46 := Tryz.underlying166
  a46 := Tryz.isAgg166
  z46 := Tryz.sizeOf166
  v46 := Tryz.zeroValue166
  t53 := Tryz.underlying177
  a53 := Tryz.isAgg177
  z53 := Tryz.sizeOf177
  v53 := Tryz.zeroValue177
  t57 := Tryz.underlying90
  a57 := Tryz.isAgg90
  z57 := Tryz.sizeOf90
  v57 := Tryz.zeroValue90
  t63 := Tryz.underlying190
  a63 := Tryz.isAgg190
  z63 := Tryz.sizeOf190
  v63 := Tryz.zeroValue190
  t64 := Tryz.underlying92
  a64 := Tryz.isAgg92
  z64 := Tryz.sizeOf92
  v64 := Tryz.zeroValue92
theorem contains_kit (s sub : ByteArray) (m : Int) (w : World) (hs : s.size < 4294967281) (hm : w.cell? ⟨0, 0, none⟩ = some (.int .i64 m)) :
    Calls Tryz.prog 159 #[.string s, .string sub] w fun e w' => e = .returned (.bool (Lib.contains s.data.toList sub.data.toList)) ∧ w' = w := Any.strings_Contains Tryz.lays144 s sub m w hs hm
end

section
open Go.RowKit Go.Maps Go.Sort Go.Shelf
/-- slices.Sort's two contracts, at the fence that asks nothing -/
theorem sortsA (m : Nat) : AnyZI.SortsIn Tryz.prog Tryz.sortedA_ren Fence.wide m :=
  ⟨fun blk off cap ss W hH hblk hsz => callsIn_wide.2 (AnyM.slices_Sort_int Tryz.sortA blk off cap ss W hH hblk hsz),
   fun p cap W => callsIn_wide.2 (AnyM.slices_Sort_int_none Tryz.sortA p cap W)⟩

theorem sortedKeys : Am.SortedKeys Tryz.prog 50 78 3 := by
  intro Bm b nn D0 R w hBm hcell hown hmax hbytes
  have hseq : SeqGives Fence.wide 2 Tryz.prog 78 #[.pointer (some ⟨Bm, 0, none⟩)] encZ (fun ss => ss.Perm (intKeys D0)) (Maps.size D0) w :=
    AnyZI.keys_gives (ρ := Tryz.keysA_ren) { Tryz.keysA with } Fence.wide _ trivial rfl (by omega) Bm b nn D0 w hBm hcell hown
  have cS := AnyZI.sorted_in Tryz.sortedA Fence.wide 5 trivial trivial trivial trivial rfl (by omega) (sortsA _) (enters_of Tryz.func77 (by kernel_rfl) rfl) 78 #[.pointer (some ⟨Bm, 0, none⟩)] trivial (enters_of Tryz.func78 (by kernel_rfl) rfl) _ _ hmax hbytes _ hseq
  change CallsIn _ _ Tryz.prog 50 _ _ _ at cS
  exact callsIn_wide.1 (cS.mono fun e w' q => by
    obtain ⟨v, ss, rfl, hS, hrow, hnil, hb⟩ := q
    exact ⟨v, ss, rfl, hS, hrow, hnil, hb⟩)

end

theorem join_kit : JoinK Tryz.prog 72 :=
  ⟨fun bk o c xs sep w h1 h2 h3 h4 h5 => Go.Proofs.Any.strings_Join Tryz.lays156 Tryz.extra156 bk o c xs sep w h1 h2 h3 h4 h5, fun a c sep w => Go.Proofs.Any.strings_Join_none Tryz.lays156 Tryz.extra156 a c sep w⟩

noncomputable def ctx : Ctx := ⟨Tryz.prog, fun f => bif Nat.beq f 159 then some containsP else bif Nat.beq f 50 then some (sortedKeysC 78) else bif Nat.beq f 72 then some joinP else none, fun f => bif Nat.beq f 153 then some indexP else none⟩
theorem follows : ctx.P.follows .mixedOrders = true := by kernel_rfl
theorem namesOk : NamesOk ctx.P := by
  intro f fn hf
  have hall : (Tryz.prog.funcs.toList.all fun fn => !(fn.name == "runtime.NumGoroutine")) = true := by kernel_rfl
  have := List.all_eq_true.1 hall fn (Array.mem_toList_iff.2 (Array.mem_of_getElem? hf))
  simpa using this
theorem primOk : PrimOk ctx := by
  refine ⟨fun f p args h v h' hp he => ?_, fun f p args h v h' hp he w0 E w xs hx s => ?_⟩
  · simp only [ctx, cond_beq] at hp
    by_cases hf : f = 159
    · rw [if_pos hf] at hp
      cases hp
      subst hf
      obtain ⟨s, sub, rfl, hs, rfl, rfl⟩ := containsP_some he
      refine ⟨⟨_, Tryz.func159, by kernel_rfl⟩, kit_prim fun E xs w hl hx => ?_⟩
      obtain ⟨y, ys, rfl, q1, z, zs, rfl, q2, rfl⟩ := hx
      simp only [Rel] at q1 q2
      subst q1 q2
      obtain ⟨m, hm⟩ := hl
      refine (contains_kit ⟨⟨s⟩⟩ ⟨⟨sub⟩⟩ m w (by show s.length < 4294967281; omega) hm).mono fun e w' q => ?_
      obtain ⟨rfl, rfl⟩ := q
      exact ⟨_, rfl, by simp only [Rel], Below.refl _ _⟩
    · rw [if_neg hf] at hp
      by_cases hf : f = 50
      · rw [if_pos hf] at hp
        cases hp
        subst hf
        exact ⟨⟨_, Tryz.func50, by kernel_rfl⟩, fun w0 E w xs hx s => sortedKeys_ok (by decide) Tryz.underlying3 sortedKeys he w0 E w xs hx s⟩
      · rw [if_neg hf] at hp
        by_cases hf : f = 72
        · rw [if_pos hf] at hp
          cases hp
          subst hf
          exact ⟨⟨_, Tryz.func72, by kernel_rfl⟩, fun w0 E w xs hx s => joinP_ok join_kit he w0 E w xs hx s⟩
        · rw [if_neg hf] at hp; cases hp
  · simp only [ctx, cond_beq] at hp
    by_cases hf : f = 153
    · rw [if_pos hf] at hp
      cases hp
      subst hf
      exact indexP_ext (P := Tryz.prog) Tryz.func153 (by kernel_rfl) (by kernel_rfl) (by kernel_rfl) (by kernel_rfl) he w0 E w xs hx s
    · rw [if_neg hf] at hp; cases hp
end Go.Proofs.YthemdhlheglhoaaGreatDoor
