/- The chapter's functions, walked by the abstract machine: plain lemmas, no condition. -/
import Derived.Test.YtjbiefneffiogaaGreatM6
import Derived.Test.YtjbiefneffiogaaGreatRows
import Derived.Test.YtjbiefneffiogaaGreatM4
import Derived.Shelf.SortM.Plain
import Derived.Shelf.SortM.SortNone
import Derived.Shelf.SlIterI.Nil
set_option linter.unusedSectionVars false
set_option linter.unusedSimpArgs false
set_option linter.unusedVariables false

namespace Go.Proofs.YtjbiefneffiogaaGreat
open Go Go.Shelf
def Tryz.keysA_ren : Go.Shelf.Ren := ⟨fun | 7 => 68 | 10 => 129 | n => n, fun | 23 => 88 | 26 => 3 | 3 => 4 | 28 => 91 | 0 => 0 | 27 => 90 | 33 => 136 | 4 => 4 | n => n, fun | n => n⟩
theorem Tryz.keysA : Go.Proofs.SlLaysZI.n7 Tryz.prog Tryz.keysA_ren where
  mixed := by kernel_rfl
  f7 := ⟨"maps.Keys[map[int]bool,int,bool]", by decide, Tryz.func68.trans (congrArg some (by kernel_rfl))⟩
  f10 := ⟨"maps.Keys[map[int]bool,int,bool]$1", by decide, Tryz.func129.trans (congrArg some (by kernel_rfl))⟩
  t0 := Tryz.underlying0
  a0 := Tryz.isAgg0
  z0 := Tryz.sizeOf0
  v0 := Tryz.zeroValue0
  t4 := Tryz.underlying4
  a4 := Tryz.isAgg4
  z4 := Tryz.sizeOf4
  v4 := Tryz.zeroValue4
  t23 := Tryz.underlying88
  a23 := Tryz.isAgg88
  z23 := Tryz.sizeOf88
  v23 := Tryz.zeroValue88
  t26 := Tryz.underlying3
  a26 := Tryz.isAgg3
  z26 := Tryz.sizeOf3
  v26 := Tryz.zeroValue3
  t27 := Tryz.underlying90
  a27 := Tryz.isAgg90
  z27 := Tryz.sizeOf90
  v27 := Tryz.zeroValue90
  t28 := Tryz.underlying91
  a28 := Tryz.isAgg91
  z28 := Tryz.sizeOf91
  v28 := Tryz.zeroValue91
  t33 := Tryz.underlying136
  a33 := Tryz.isAgg136
  z33 := Tryz.sizeOf136
  v33 := Tryz.zeroValue136
def Tryz.sortedA_ren : Go.Shelf.Ren := ⟨fun | 6 => 67 | 8 => 128 | 9 => 51 | 11 => 161 | 13 => 73 | 12 => 72 | 23 => 143 | 24 => 144 | 14 => 134 | 15 => 135 | 16 => 136 | 17 => 137 | 18 => 138 | 19 => 139 | 20 => 140 | 21 => 141 | 22 => 142 | 25 => 164 | 26 => 165 | 27 => 166 | 28 => 167 | 29 => 168 | 30 => 169 | 31 => 171 | n => n, fun | 26 => 3 | 28 => 91 | 24 => 23 | 0 => 0 | 3 => 3 | 37 => 96 | 48 => 156 | 50 => 158 | 4 => 4 | 40 => 148 | 39 => 147 | 45 => 153 | 5 => 5 | 9 => 9 | 51 => 178 | 55 => 182 | 57 => 187 | 58 => 188 | 33 => 136 | n => n, fun | n => n⟩
theorem Tryz.sortedA : Go.Proofs.SlLaysZI.n6 Tryz.prog Tryz.sortedA_ren where
  mixed := by kernel_rfl
  f6 := ⟨"slices.Sorted[int]", by decide, Tryz.func67.trans (congrArg some (by kernel_rfl))⟩
  f8 := ⟨"slices.Collect[int]", by decide, Tryz.func128.trans (congrArg some (by kernel_rfl))⟩
  f11 := ⟨"slices.AppendSeq[[]int,int]", by decide, Tryz.func161.trans (congrArg some (by kernel_rfl))⟩
  t0 := Tryz.underlying0
  a0 := Tryz.isAgg0
  z0 := Tryz.sizeOf0
  v0 := Tryz.zeroValue0
  t24 := Tryz.underlying23
  a24 := Tryz.isAgg23
  z24 := Tryz.sizeOf23
  v24 := Tryz.zeroValue23
  t26 := Tryz.underlying3
  a26 := Tryz.isAgg3
  z26 := Tryz.sizeOf3
  v26 := Tryz.zeroValue3
  t28 := Tryz.underlying91
  a28 := Tryz.isAgg91
  z28 := Tryz.sizeOf91
  v28 := Tryz.zeroValue91
  i26 := by kernel_rfl
def Tryz.sortA_ren : Go.Shelf.Ren := ⟨fun | 5 => 51 | 8 => 73 | 7 => 72 | 19 => 143 | 20 => 144 | 10 => 134 | 11 => 135 | 12 => 136 | 13 => 137 | 14 => 138 | 15 => 139 | 16 => 140 | 17 => 141 | 18 => 142 | 30 => 164 | 31 => 165 | 32 => 166 | 33 => 167 | 34 => 168 | 35 => 169 | 40 => 171 | n => n, fun | 23 => 23 | 25 => 3 | 3 => 3 | 32 => 96 | 22 => 23 | 0 => 0 | 44 => 156 | 46 => 158 | 4 => 4 | 36 => 148 | 35 => 147 | 41 => 153 | 5 => 5 | 9 => 9 | 53 => 178 | 57 => 182 | 63 => 187 | 64 => 188 | n => n, fun | n => n⟩
theorem Tryz.sortA : Go.Proofs.SlLaysM.n5 Tryz.prog Tryz.sortA_ren where
  mixed := by kernel_rfl
  f5 := ⟨"slices.Sort[[]int,int]", by decide, Tryz.func51.trans (congrArg some (by kernel_rfl))⟩
  f7 := ⟨"slices.pdqsortOrdered[int]", by decide, Tryz.func72.trans (congrArg some (by kernel_rfl))⟩
  f8 := Tryz.func73.trans (congrArg some (by kernel_rfl))
  f10 := ⟨"slices.insertionSortOrdered[int]", by decide, Tryz.func134.trans (congrArg some (by kernel_rfl))⟩
  f11 := ⟨"slices.heapSortOrdered[int]", by decide, Tryz.func135.trans (congrArg some (by kernel_rfl))⟩
  f12 := ⟨"slices.breakPatternsOrdered[int]", by decide, Tryz.func136.trans (congrArg some (by kernel_rfl))⟩
  f13 := ⟨"slices.choosePivotOrdered[int]", by decide, Tryz.func137.trans (congrArg some (by kernel_rfl))⟩
  f14 := ⟨"slices.reverseRangeOrdered[int]", by decide, Tryz.func138.trans (congrArg some (by kernel_rfl))⟩
  f15 := ⟨"slices.partialInsertionSortOrdered[int]", by decide, Tryz.func139.trans (congrArg some (by kernel_rfl))⟩
  f16 := ⟨"cmp.Less[int]", by decide, Tryz.func140.trans (congrArg some (by kernel_rfl))⟩
  f17 := ⟨"slices.partitionEqualOrdered[int]", by decide, Tryz.func141.trans (congrArg some (by kernel_rfl))⟩
  f18 := ⟨"slices.partitionOrdered[int]", by decide, Tryz.func142.trans (congrArg some (by kernel_rfl))⟩
  f19 := Tryz.func143.trans (congrArg some (by kernel_rfl))
  f20 := Tryz.func144.trans (congrArg some (by kernel_rfl))
  f30 := ⟨"slices.siftDownOrdered[int]", by decide, Tryz.func164.trans (congrArg some (by kernel_rfl))⟩
  f31 := Tryz.func165.trans (congrArg some (by kernel_rfl))
  f32 := Tryz.func166.trans (congrArg some (by kernel_rfl))
  f33 := ⟨"slices.medianAdjacentOrdered[int]", by decide, Tryz.func167.trans (congrArg some (by kernel_rfl))⟩
  f34 := ⟨"slices.medianOrdered[int]", by decide, Tryz.func168.trans (congrArg some (by kernel_rfl))⟩
  f35 := ⟨"cmp.isNaN[int]", by decide, Tryz.func169.trans (congrArg some (by kernel_rfl))⟩
  f40 := ⟨"slices.order2Ordered[int]", by decide, Tryz.func171.trans (congrArg some (by kernel_rfl))⟩
  t0 := Tryz.underlying0
  a0 := Tryz.isAgg0
  z0 := Tryz.sizeOf0
  v0 := Tryz.zeroValue0
  t3 := Tryz.underlying3
  a3 := Tryz.isAgg3
  z3 := Tryz.sizeOf3
  v3 := Tryz.zeroValue3
  t4 := Tryz.underlying4
  a4 := Tryz.isAgg4
  z4 := Tryz.sizeOf4
  v4 := Tryz.zeroValue4
  t5 := Tryz.underlying5
  a5 := Tryz.isAgg5
  z5 := Tryz.sizeOf5
  v5 := Tryz.zeroValue5
  t9 := Tryz.underlying9
  a9 := Tryz.isAgg9
  z9 := Tryz.sizeOf9
  v9 := Tryz.zeroValue9
  t22 := Tryz.underlying23
  a22 := Tryz.isAgg23
  z22 := Tryz.sizeOf23
  v22 := Tryz.zeroValue23
  t23 := Tryz.underlying23
  a23 := Tryz.isAgg23
  z23 := Tryz.sizeOf23
  v23 := Tryz.zeroValue23
  t25 := Tryz.underlying3
  a25 := Tryz.isAgg3
  z25 := Tryz.sizeOf3
  v25 := Tryz.zeroValue3
  t32 := Tryz.underlying96
  a32 := Tryz.isAgg96
  z32 := Tryz.sizeOf96
  v32 := Tryz.zeroValue96
  t35 := Tryz.underlying147
  a35 := Tryz.isAgg147
  z35 := Tryz.sizeOf147
  v35 := Tryz.zeroValue147
  t36 := Tryz.underlying148
  a36 := Tryz.isAgg148
  z36 := Tryz.sizeOf148
  v36 := Tryz.zeroValue148
  t41 := Tryz.underlying153
  a41 := Tryz.isAgg153
  z41 := Tryz.sizeOf153
  v41 := Tryz.zeroValue153
  t44 := Tryz.underlying156
  a44 := Tryz.isAgg156
  z44 := Tryz.sizeOf156
  v44 := Tryz.zeroValue156
  t46 := Tryz.underlying158
  a46 := Tryz.isAgg158
  z46 := Tryz.sizeOf158
  v46 := Tryz.zeroValue158
  t53 := Tryz.underlying178
  a53 := Tryz.isAgg178
  z53 := Tryz.sizeOf178
  v53 := Tryz.zeroValue178
  t57 := Tryz.underlying182
  a57 := Tryz.isAgg182
  z57 := Tryz.sizeOf182
  v57 := Tryz.zeroValue182
  t63 := Tryz.underlying187
  a63 := Tryz.isAgg187
  z63 := Tryz.sizeOf187
  v63 := Tryz.zeroValue187
  t64 := Tryz.underlying188
  a64 := Tryz.isAgg188
  z64 := Tryz.sizeOf188
  v64 := Tryz.zeroValue188
open Go.RowKit Go.Maps Go.Sort
theorem sortsA (m : Nat) : AnyZI.SortsIn Tryz.prog Tryz.sortedA_ren Fence.wide m :=
  ⟨fun blk off cap ss W hH hblk hsz => callsIn_wide.2 (AnyM.slices_Sort_int Tryz.sortA blk off cap ss W hH hblk hsz),
   fun p cap W => callsIn_wide.2 (AnyM.slices_Sort_int_none Tryz.sortA p cap W)⟩
theorem sortedKeys : Am.SortedKeys Tryz.prog 67 129 3 := by
  intro Bm b nn D0 R w hBm hcell hown hmax hbytes
  have hseq : SeqGives Fence.wide 2 Tryz.prog 129 #[.pointer (some ⟨Bm, 0, none⟩)] encZ (fun ss => ss.Perm (intKeys D0)) (Maps.size D0) w :=
    AnyZI.keys_gives (ρ := Tryz.keysA_ren) { Tryz.keysA with } Fence.wide _ trivial rfl (by omega) Bm b nn D0 w hBm hcell hown
  have cS := AnyZI.sorted_in Tryz.sortedA Fence.wide 5 trivial trivial trivial trivial rfl (by omega) (sortsA _) (enters_of Tryz.func51 (by kernel_rfl) rfl) 129 #[.pointer (some ⟨Bm, 0, none⟩)] trivial (enters_of Tryz.func129 (by kernel_rfl) rfl) _ _ hmax hbytes _ hseq
  change CallsIn _ _ Tryz.prog 67 _ _ _ at cS
  exact callsIn_wide.1 (cS.mono fun e w' q => by
    obtain ⟨v, ss, rfl, hS, hrow, hnil, hb⟩ := q
    exact ⟨v, ss, rfl, hS, hrow, hnil, hb⟩)
instance lay : Am.Lay := ⟨fun _ => True, fun h _ => h⟩
theorem follows : Tryz.prog.follows .mixedOrders = true := by kernel_rfl
theorem names : (Tryz.prog.funcs.toList.all fun fn => !(fn.name == "runtime.NumGoroutine")) = true := by kernel_rfl
theorem namesOk : Am.NamesOk Tryz.prog := by
  intro f fn h
  have := List.all_eq_true.1 names fn (List.mem_of_getElem? (i := f) (by simpa using h))
  simpa using this
noncomputable def ctx : Am.Ctx := ⟨Tryz.prog, fun f => bif Nat.beq f 67 then some (Am.sortedKeysC 129) else none⟩
theorem primOk : Am.PrimOk ctx := by
  intro f p args h v h' hp he
  simp only [ctx] at hp
  cases hf : Nat.beq f 67 with
  | false => rw [hf] at hp; cases hp
  | true =>
    rw [hf] at hp
    simp only [cond_true, Option.some.injEq] at hp
    subst hp
    obtain rfl : f = 67 := Nat.eq_of_beq_eq_true hf
    exact ⟨⟨_, Tryz.func67, by kernel_rfl⟩, fun w0 E w xs hx s => Am.sortedKeys_ok Tryz.underlying3 sortedKeys he w0 E w xs hx s⟩
def CtrOf (f : FuncId) (n : Nat) (rs : List Am.RR') (c : Am.RC) : Prop := ∀ {args : List Am.V} {h : Am.Heap} {K : Am.V → Am.Heap → Prop}, Nat.ble args.length n = true → (Am.wpC Tryz.prog c (Am.RF.ofL args) h fun e r h' => e.ends ∧ ∃ vs, Am.evR r h' rs = some vs ∧ K (Am.oneOf vs) h') → Am.Ctr Tryz.prog f args h K
theorem ctrOf {f : FuncId} {fn : Func} {n : Nat} {rs : List Am.RR'} {c : Am.RC} (h1 : Tryz.prog.funcs[f]? = some fn) (h2 : fn.body = some (fn.body.getD .skip)) (h3 : Nat.ble fn.ntmps Am.top = true) (hn : fn.ntmps = n) (h4 : Am.resK Tryz.prog fn.ntmps (fn.body.getD .skip) = c) (h5 : Am.resR Tryz.prog fn.ntmps fn.results.toList = rs) : CtrOf f n rs c := by
  subst hn
  exact fun hl H => Am.ctr_of_wp follows namesOk h1 h2 h3 hl h4 h5 H
end Go.Proofs.YtjbiefneffiogaaGreat

namespace Go.Proofs.YtjbiefneffiogaaGreat
open Go Am
def c20 : RC :=
 .seq (.reg [⟨some 1, .box (.t 0), none, [0]⟩,
 ⟨some 2, .mv (.c (.int .i64 0)), none, []⟩])
 (.seq (.block 0 (.seq (.reg [⟨some 4, .ldn 7 (.t 1), none, [1]⟩,
 ⟨some 5, .call 44 [(.t 4)], none, [4]⟩,
 ⟨some 6, .un .not (.t 5), none, [5]⟩,
 ⟨some 3, .mv (.t 6), none, [6]⟩])
 (.cond (.t 3)
 (.seq (.reg [⟨some 2, .mv (.c (.int .i64 2)), none, []⟩])
 (.ret))
 (.seq (.draw [⟨some 8, .ldn 7 (.t 1), none, [1]⟩,
 ⟨some 11, .ldn 7 (.t 1), none, [1]⟩,
 ⟨some 9, .call 45 [(.t 8)], none, [8]⟩,
 ⟨some 10, .len .slice (.t 9), none, [9]⟩,
 ⟨some 12, .call 25 [(.t 11)], none, [11]⟩,
 ⟨some 13, .len .slice (.t 12), none, [12]⟩,
 ⟨some 14, .bin (.int .neq) (.t 10) (.t 13), none, [10, 13]⟩,
 ⟨some 7, .mv (.t 14), none, [14]⟩] [(0, [2]), (1, [2, 4])])
 (.cond (.t 7)
 (.seq (.reg [⟨some 2, .mv (.c (.int .i64 7)), none, []⟩])
 (.ret))
 (.seq (.reg [⟨some 16, .ldn 7 (.t 1), none, [1]⟩,
 ⟨some 17, .call 46 [(.t 16)], none, [16]⟩,
 ⟨some 18, .len .slice (.t 17), none, [17]⟩,
 ⟨some 19, .bin (.int .gtr) (.t 18) (.c (.int .i64 0)), none, [18]⟩,
 ⟨some 15, .mv (.t 19), none, [19]⟩])
 (.cond (.t 15)
 (.seq (.reg [⟨some 2, .mv (.c (.int .i64 6)), none, []⟩])
 (.ret))
 (.skip))))))))
 (.seq (.reg [⟨some 2, .mv (.c (.int .i64 0)), none, []⟩])
 (.ret)))
theorem c20_ctr : CtrOf 20 20 [.t 2] c20 := ctrOf Tryz.func20 (by kernel_rfl) (by kernel_rfl) rfl (by kernel_rfl) (by kernel_rfl)
def c22 : RC :=
 .seq (.reg [⟨some 1, .box (.t 0), none, [0]⟩,
 ⟨some 2, .mv (.c (.int .i64 0)), none, []⟩])
 (.seq (.seq (.reg [⟨some 3, .ldn 7 (.t 1), none, [1]⟩,
 ⟨some 4, .call 44 [(.t 3)], none, [3]⟩,
 ⟨some 5, .un .not (.t 4), none, [4]⟩])
 (.cond (.t 5)
 (.seq (.reg [⟨some 2, .mv (.c (.int .i64 0)), none, []⟩])
 (.ret))
 (.skip)))
 (.seq (.reg [⟨some 6, .ldn 7 (.t 1), none, [1]⟩,
 ⟨some 7, .call 49 [(.t 6)], none, [6]⟩,
 ⟨some 2, .mv (.t 7), none, [7]⟩])
 (.ret)))
theorem c22_ctr : CtrOf 22 8 [.t 2] c22 := ctrOf Tryz.func22 (by kernel_rfl) (by kernel_rfl) rfl (by kernel_rfl) (by kernel_rfl)
def c25 : RC :=
 .seq (.reg [⟨some 1, .box (.t 0), none, [0]⟩,
 ⟨some 2, .mv (.c .nilslice), none, []⟩])
 (.seq (.seq (.reg [⟨some 4, .ldn 7 (.t 1), none, [1]⟩,
 ⟨some 5, .call 44 [(.t 4)], none, [4]⟩,
 ⟨some 6, .un .not (.t 5), none, [5]⟩])
 (.cond (.t 6)
 (.seq (.reg [⟨some 2, .mv (.c .nilslice), none, []⟩])
 (.ret))
 (.skip)))
 (.seq (.reg [⟨some 7, .ldn 7 (.t 1), none, [1]⟩,
 ⟨some 8, .call 45 [(.t 7)], none, [7]⟩,
 ⟨some 3, .mv (.t 8), none, [8]⟩])
 (.seq (.reg [⟨some 9, .mv (.t 3), none, [3]⟩,
 ⟨some 10, .call 51 [(.t 9)], none, [9]⟩])
 (.seq (.reg [⟨some 11, .mv (.t 3), none, [3]⟩,
 ⟨some 12, .call 52 [(.t 11)], none, [11]⟩,
 ⟨some 2, .mv (.t 12), none, [12]⟩])
 (.ret)))))
theorem c25_ctr : CtrOf 25 13 [.t 2] c25 := ctrOf Tryz.func25 (by kernel_rfl) (by kernel_rfl) rfl (by kernel_rfl) (by kernel_rfl)
def c44l1 : RC :=
 .seq (.reg [⟨some 55, .bin (.int .lss) (.t 54) (.t 53), none, [54, 53]⟩])
 (.seq (.cond (.t 55)
 (.skip)
 (.exit 0))
 (.seq (.block 1 (.seq (.reg [⟨some 56, .ia 7 (.t 52) (.t 54), none, [52, 54]⟩,
 ⟨some 57, .ldn 7 (.t 56), none, [56]⟩,
 ⟨some 5, .new [(.int .i64 0), (.int .i64 0), (.int .i64 0), (.str []), .nilslice, .nilslice, .nilslice], none, []⟩,
 ⟨none, .st 7 (.t 5) (.t 57), none, [5, 57]⟩])
 (.seq (.reg [⟨some 58, .fa 0 (.t 5), none, [5]⟩,
 ⟨some 59, .ld1 (.t 58), none, [58]⟩,
 ⟨some 60, .bin (.int .neq) (.t 59) (.c (.int .i64 7)), none, [59]⟩,
 ⟨some 61, .mv (.t 60), none, [60]⟩,
 ⟨some 62, .ldn 7 (.t 5), (some (61, false)), [5, 61]⟩,
 ⟨some 63, .call 61 [(.t 62), (.c (.bool true))], (some (61, false)), [62, 61]⟩,
 ⟨some 64, .un .not (.t 63), (some (61, false)), [63, 61]⟩,
 ⟨some 65, .pick (.t 61) (.c (.bool true)) (.t 64), none, [61, 64]⟩,
 ⟨some 66, .mv (.t 65), none, [65]⟩,
 ⟨some 67, .fa 6 (.t 5), (some (66, false)), [5, 66]⟩,
 ⟨some 68, .ld1 (.t 67), (some (66, false)), [67, 66]⟩,
 ⟨some 69, .ia 7 (.t 68) (.c (.int .i64 0)), (some (66, false)), [68, 66]⟩,
 ⟨some 70, .ldn 7 (.t 69), (some (66, false)), [69, 66]⟩,
 ⟨some 71, .call 44 [(.t 70)], (some (66, false)), [70, 66]⟩,
 ⟨some 72, .un .not (.t 71), (some (66, false)), [71, 66]⟩,
 ⟨some 73, .pick (.t 66) (.c (.bool true)) (.t 72), none, [66, 72]⟩])
 (.cond (.t 73)
 (.seq (.reg [⟨some 2, .mv (.c (.bool false)), none, []⟩])
 (.ret))
 (.skip)))))
 (.reg [⟨some 74, .bin (.int .add) (.t 54) (.c (.int .i64 1)), none, [54]⟩,
 ⟨some 54, .mv (.t 74), none, [74]⟩])))
def c44 : RC :=
 .seq (.reg [⟨some 1, .box (.t 0), none, [0]⟩,
 ⟨some 2, .mv (.c (.bool false)), none, []⟩])
 (.seq (.seq (.reg [⟨some 6, .fa 0 (.t 1), none, [1]⟩,
 ⟨some 7, .ld1 (.t 6), none, [6]⟩,
 ⟨some 8, .bin (.int .neq) (.t 7) (.c (.int .i64 8)), none, [7]⟩])
 (.cond (.t 8)
 (.seq (.seq (.reg [⟨some 9, .ldn 7 (.t 1), none, [1]⟩,
 ⟨some 10, .call 61 [(.t 9), (.c (.bool false))], none, [9]⟩,
 ⟨some 11, .un .not (.t 10), none, [10]⟩])
 (.cond (.t 11)
 (.seq (.reg [⟨some 2, .mv (.c (.bool false)), none, []⟩])
 (.ret))
 (.skip)))
 (.seq (.reg [⟨some 12, .fa 6 (.t 1), none, [1]⟩,
 ⟨some 13, .ld1 (.t 12), none, [12]⟩,
 ⟨some 14, .call 62 [(.t 13), (.c (.func 63 []))], none, [13]⟩,
 ⟨some 15, .un .not (.t 14), none, [14]⟩,
 ⟨some 2, .mv (.t 15), none, [15]⟩])
 (.ret)))
 (.skip)))
 (.seq (.reg [⟨some 16, .fa 6 (.t 1), none, [1]⟩,
 ⟨some 17, .ld1 (.t 16), none, [16]⟩,
 ⟨some 18, .len .slice (.t 17), none, [17]⟩,
 ⟨some 19, .bin (.int .sub) (.t 18) (.c (.int .i64 1)), none, [18]⟩,
 ⟨some 3, .mv (.t 19), none, [19]⟩])
 (.seq (.seq (.reg [⟨some 20, .fa 1 (.t 1), none, [1]⟩,
 ⟨some 21, .ld1 (.t 20), none, [20]⟩,
 ⟨some 22, .bin (.int .neq) (.t 21) (.c (.int .i64 0)), none, [21]⟩,
 ⟨some 23, .mv (.t 22), none, [22]⟩,
 ⟨some 24, .fa 2 (.t 1), (some (23, false)), [1, 23]⟩,
 ⟨some 25, .ld1 (.t 24), (some (23, false)), [24, 23]⟩,
 ⟨some 26, .bin (.int .neq) (.t 25) (.c (.int .i64 0)), (some (23, false)), [25, 23]⟩,
 ⟨some 27, .pick (.t 23) (.c (.bool true)) (.t 26), none, [23, 26]⟩,
 ⟨some 28, .mv (.t 27), none, [27]⟩,
 ⟨some 29, .fa 3 (.t 1), (some (28, false)), [1, 28]⟩,
 ⟨some 30, .ld1 (.t 29), (some (28, false)), [29, 28]⟩,
 ⟨some 31, .bin (.str .neq) (.t 30) (.c (.str [])), (some (28, false)), [30, 28]⟩,
 ⟨some 32, .pick (.t 28) (.c (.bool true)) (.t 31), none, [28, 31]⟩,
 ⟨some 33, .mv (.t 32), none, [32]⟩,
 ⟨some 34, .fa 5 (.t 1), (some (33, false)), [1, 33]⟩,
 ⟨some 35, .ld1 (.t 34), (some (33, false)), [34, 33]⟩,
 ⟨some 36, .len .slice (.t 35), (some (33, false)), [35, 33]⟩,
 ⟨some 37, .bin (.int .gtr) (.t 36) (.c (.int .i64 0)), (some (33, false)), [36, 33]⟩,
 ⟨some 38, .pick (.t 33) (.c (.bool true)) (.t 37), none, [33, 37]⟩,
 ⟨some 39, .mv (.t 38), none, [38]⟩,
 ⟨some 40, .fa 4 (.t 1), (some (39, false)), [1, 39]⟩,
 ⟨some 41, .ld1 (.t 40), (some (39, false)), [40, 39]⟩,
 ⟨some 42, .len .slice (.t 41), (some (39, false)), [41, 39]⟩,
 ⟨some 43, .bin (.int .gtr) (.t 42) (.c (.int .i64 0)), (some (39, false)), [42, 39]⟩,
 ⟨some 44, .pick (.t 39) (.c (.bool true)) (.t 43), none, [39, 43]⟩,
 ⟨some 45, .mv (.t 44), none, [44]⟩,
 ⟨some 46, .mv (.t 3), (some (45, false)), [3, 45]⟩,
 ⟨some 47, .bin (.int .lss) (.t 46) (.c (.int .i64 1)), (some (45, false)), [46, 45]⟩,
 ⟨some 48, .pick (.t 45) (.c (.bool true)) (.t 47), none, [45, 47]⟩])
 (.cond (.t 48)
 (.seq (.reg [⟨some 2, .mv (.c (.bool false)), none, []⟩])
 (.ret))
 (.skip)))
 (.seq (.seq (.reg [⟨some 49, .fa 6 (.t 1), none, [1]⟩,
 ⟨some 50, .ld1 (.t 49), none, [49]⟩,
 ⟨some 51, .mv (.t 3), none, [3]⟩,
 ⟨some 52, .sl 7 (.t 50) none (some (.t 51)) none, none, [50, 51]⟩,
 ⟨some 53, .len .slice (.t 52), none, [52]⟩,
 ⟨some 54, .mv (.c (.int .i64 0)), none, []⟩])
 (.block 0 (.loop c44l1)))
 (.seq (.reg [⟨some 75, .fa 6 (.t 1), none, [1]⟩,
 ⟨some 76, .ld1 (.t 75), none, [75]⟩,
 ⟨some 77, .mv (.t 3), none, [3]⟩,
 ⟨some 78, .ia 7 (.t 76) (.t 77), none, [76, 77]⟩,
 ⟨some 79, .ldn 7 (.t 78), none, [78]⟩,
 ⟨some 80, .call 44 [(.t 79)], none, [79]⟩,
 ⟨some 2, .mv (.t 80), none, [80]⟩])
 (.ret))))))
theorem c44_ctr : CtrOf 44 81 [.t 2] c44 := ctrOf Tryz.func44 (by kernel_rfl) (by kernel_rfl) rfl (by kernel_rfl) (by kernel_rfl)
def c45 : RC :=
 .seq (.reg [⟨some 1, .box (.t 0), none, [0]⟩,
 ⟨some 2, .mv (.c .nilslice), none, []⟩])
 (.seq (.reg [⟨some 3, .new [.nilslice], none, []⟩])
 (.seq (.reg [⟨some 4, .new [.nilfunc], none, []⟩])
 (.seq (.reg [⟨some 5, .fn 64 [(.t 3), (.t 4)], none, [3, 4]⟩,
 ⟨none, .st 1 (.t 4) (.t 5), none, [4, 5]⟩])
 (.seq (.reg [⟨some 6, .ld1 (.t 4), none, [4]⟩,
 ⟨some 7, .ldn 7 (.t 1), none, [1]⟩,
 ⟨some 8, .callv (.t 6) [(.t 7)], none, [6, 7]⟩])
 (.seq (.reg [⟨some 9, .ld1 (.t 3), none, [3]⟩,
 ⟨some 2, .mv (.t 9), none, [9]⟩])
 (.ret))))))
theorem c45_ctr : CtrOf 45 10 [.t 2] c45 := ctrOf Tryz.func45 (by kernel_rfl) (by kernel_rfl) rfl (by kernel_rfl) (by kernel_rfl)
def c46 : RC :=
 .seq (.reg [⟨some 1, .box (.t 0), none, [0]⟩,
 ⟨some 2, .mv (.c .nilslice), none, []⟩])
 (.seq (.reg [⟨some 6, .mkm none, none, []⟩,
 ⟨some 3, .new [.nilmap], none, []⟩,
 ⟨none, .st 1 (.t 3) (.t 6), none, [3, 6]⟩])
 (.seq (.reg [⟨some 7, .mkm none, none, []⟩,
 ⟨some 4, .new [.nilmap], none, []⟩,
 ⟨none, .st 1 (.t 4) (.t 7), none, [4, 7]⟩])
 (.seq (.reg [⟨some 5, .new [.nilfunc], none, []⟩])
 (.seq (.reg [⟨some 8, .fn 66 [(.t 4), (.t 3), (.t 5)], none, [4, 3, 5]⟩,
 ⟨none, .st 1 (.t 5) (.t 8), none, [5, 8]⟩])
 (.seq (.reg [⟨some 9, .ld1 (.t 5), none, [5]⟩,
 ⟨some 10, .ldn 7 (.t 1), none, [1]⟩,
 ⟨some 11, .callv (.t 9) [(.t 10)], none, [9, 10]⟩])
 (.seq (.reg [⟨some 12, .ld1 (.t 3), none, [3]⟩,
 ⟨some 13, .call 68 [(.t 12)], none, [12]⟩,
 ⟨some 14, .call 67 [(.t 13)], none, [13]⟩,
 ⟨some 2, .mv (.t 14), none, [14]⟩])
 (.ret)))))))
theorem c46_ctr : CtrOf 46 15 [.t 2] c46 := ctrOf Tryz.func46 (by kernel_rfl) (by kernel_rfl) rfl (by kernel_rfl) (by kernel_rfl)
def c49l1 : RC :=
 .seq (.reg [⟨some 10, .bin (.int .lss) (.t 9) (.t 8), none, [9, 8]⟩])
 (.seq (.cond (.t 10)
 (.skip)
 (.exit 0))
 (.seq (.block 1 (.seq (.reg [⟨some 11, .ia 7 (.t 7) (.t 9), none, [7, 9]⟩,
 ⟨some 12, .ldn 7 (.t 11), none, [11]⟩,
 ⟨some 5, .new [(.int .i64 0), (.int .i64 0), (.int .i64 0), (.str []), .nilslice, .nilslice, .nilslice], none, []⟩,
 ⟨none, .st 7 (.t 5) (.t 12), none, [5, 12]⟩])
 (.reg [⟨some 13, .mv (.t 3), none, [3]⟩,
 ⟨some 14, .ldn 7 (.t 5), none, [5]⟩,
 ⟨some 15, .call 49 [(.t 14)], none, [14]⟩,
 ⟨some 16, .bin (.int .add) (.t 13) (.t 15), none, [13, 15]⟩,
 ⟨some 3, .mv (.t 16), none, [16]⟩])))
 (.reg [⟨some 17, .bin (.int .add) (.t 9) (.c (.int .i64 1)), none, [9]⟩,
 ⟨some 9, .mv (.t 17), none, [17]⟩])))
def c49 : RC :=
 .seq (.reg [⟨some 1, .box (.t 0), none, [0]⟩,
 ⟨some 2, .mv (.c (.int .i64 0)), none, []⟩])
 (.seq (.reg [⟨some 3, .mv (.c (.int .i64 1)), none, []⟩])
 (.seq (.seq (.reg [⟨some 6, .fa 6 (.t 1), none, [1]⟩,
 ⟨some 7, .ld1 (.t 6), none, [6]⟩,
 ⟨some 8, .len .slice (.t 7), none, [7]⟩,
 ⟨some 9, .mv (.c (.int .i64 0)), none, []⟩])
 (.block 0 (.loop c49l1)))
 (.seq (.reg [⟨some 18, .mv (.t 3), none, [3]⟩,
 ⟨some 2, .mv (.t 18), none, [18]⟩])
 (.ret))))
theorem c49_ctr : CtrOf 49 19 [.t 2] c49 := ctrOf Tryz.func49 (by kernel_rfl) (by kernel_rfl) rfl (by kernel_rfl) (by kernel_rfl)
def c52l1 : RC :=
 .seq (.seq (.reg [⟨some 29, .mv (.t 5), none, [5]⟩,
 ⟨some 30, .mv (.t 4), none, [4]⟩,
 ⟨some 31, .len .slice (.t 30), none, [30]⟩,
 ⟨some 32, .bin (.int .lss) (.t 29) (.t 31), none, [29, 31]⟩])
 (.cond (.t 32)
 (.skip)
 (.exit 2)))
 (.seq (.block 3 (.seq (.draw [⟨some 35, .mv (.t 4), none, [4]⟩,
 ⟨some 36, .mv (.t 5), none, [5]⟩,
 ⟨some 37, .ia 1 (.t 35) (.t 36), none, [35, 36]⟩,
 ⟨some 38, .ld1 (.t 37), none, [37]⟩,
 ⟨some 39, .mv (.t 4), none, [4]⟩,
 ⟨some 40, .mv (.t 5), none, [5]⟩,
 ⟨some 41, .bin (.int .sub) (.t 40) (.c (.int .i64 1)), none, [40]⟩,
 ⟨some 42, .ia 1 (.t 39) (.t 41), none, [39, 41]⟩,
 ⟨some 43, .ld1 (.t 42), none, [42]⟩,
 ⟨some 44, .bin (.int .neq) (.t 38) (.t 43), none, [38, 43]⟩] [])
 (.cond (.t 44)
 (.seq (.reg [⟨some 45, .mv (.t 0), none, [0]⟩,
 ⟨some 46, .mv (.t 3), none, [3]⟩,
 ⟨some 47, .mv (.t 4), none, [4]⟩,
 ⟨some 48, .mv (.t 5), none, [5]⟩,
 ⟨some 49, .ia 1 (.t 47) (.t 48), none, [47, 48]⟩,
 ⟨some 50, .ld1 (.t 49), none, [49]⟩,
 ⟨some 51, .ia 1 (.t 45) (.t 46), none, [45, 46]⟩,
 ⟨none, .st 1 (.t 51) (.t 50), none, [51, 50]⟩])
 (.reg [⟨some 52, .mv (.t 3), none, [3]⟩,
 ⟨some 53, .bin (.int .add) (.t 52) (.c (.int .i64 1)), none, [52]⟩,
 ⟨some 3, .mv (.t 53), none, [53]⟩]))
 (.skip))))
 (.reg [⟨some 33, .mv (.t 5), none, [5]⟩,
 ⟨some 34, .bin (.int .add) (.t 33) (.c (.int .i64 1)), none, [33]⟩,
 ⟨some 5, .mv (.t 34), none, [34]⟩]))
def c52l2 : RC :=
 .seq (.seq (.reg [⟨some 10, .mv (.t 3), none, [3]⟩,
 ⟨some 11, .mv (.t 0), none, [0]⟩,
 ⟨some 12, .len .slice (.t 11), none, [11]⟩,
 ⟨some 13, .bin (.int .lss) (.t 10) (.t 12), none, [10, 12]⟩])
 (.cond (.t 13)
 (.skip)
 (.exit 0)))
 (.seq (.block 1 (.seq (.draw [⟨some 16, .mv (.t 0), none, [0]⟩,
 ⟨some 17, .mv (.t 3), none, [3]⟩,
 ⟨some 18, .ia 1 (.t 16) (.t 17), none, [16, 17]⟩,
 ⟨some 19, .ld1 (.t 18), none, [18]⟩,
 ⟨some 20, .mv (.t 0), none, [0]⟩,
 ⟨some 21, .mv (.t 3), none, [3]⟩,
 ⟨some 22, .bin (.int .sub) (.t 21) (.c (.int .i64 1)), none, [21]⟩,
 ⟨some 23, .ia 1 (.t 20) (.t 22), none, [20, 22]⟩,
 ⟨some 24, .ld1 (.t 23), none, [23]⟩,
 ⟨some 25, .bin (.int .eql) (.t 19) (.t 24), none, [19, 24]⟩] [])
 (.cond (.t 25)
 (.seq (.reg [⟨some 26, .mv (.t 0), none, [0]⟩,
 ⟨some 27, .mv (.t 3), none, [3]⟩,
 ⟨some 28, .sl 1 (.t 26) (some (.t 27)) none none, none, [26, 27]⟩,
 ⟨some 4, .mv (.t 28), none, [28]⟩])
 (.seq (.seq (.reg [⟨some 5, .mv (.c (.int .i64 1)), none, []⟩])
 (.block 2 (.loop c52l1)))
 (.seq (.reg [⟨some 54, .mv (.t 0), none, [0]⟩,
 ⟨some 55, .mv (.t 3), none, [3]⟩,
 ⟨some 56, .sl 1 (.t 54) (some (.t 55)) none none, none, [54, 55]⟩,
 ⟨none, .clr [(.int .i64 0)] (.t 56), none, [56]⟩])
 (.seq (.reg [⟨some 57, .mv (.t 0), none, [0]⟩,
 ⟨some 58, .mv (.t 3), none, [3]⟩,
 ⟨some 59, .sl 1 (.t 57) none (some (.t 58)) none, none, [57, 58]⟩,
 ⟨some 2, .mv (.t 59), none, [59]⟩])
 (.ret)))))
 (.skip))))
 (.reg [⟨some 14, .mv (.t 3), none, [3]⟩,
 ⟨some 15, .bin (.int .add) (.t 14) (.c (.int .i64 1)), none, [14]⟩,
 ⟨some 3, .mv (.t 15), none, [15]⟩]))
def c52 : RC :=
 .seq (.reg [⟨some 2, .mv (.c .nilslice), none, []⟩])
 (.seq (.seq (.reg [⟨some 6, .mv (.t 0), none, [0]⟩,
 ⟨some 7, .len .slice (.t 6), none, [6]⟩,
 ⟨some 8, .bin (.int .lss) (.t 7) (.c (.int .i64 2)), none, [7]⟩])
 (.cond (.t 8)
 (.seq (.reg [⟨some 9, .mv (.t 0), none, [0]⟩,
 ⟨some 2, .mv (.t 9), none, [9]⟩])
 (.ret))
 (.skip)))
 (.seq (.seq (.reg [⟨some 3, .mv (.c (.int .i64 1)), none, []⟩])
 (.block 0 (.loop c52l2)))
 (.seq (.reg [⟨some 60, .mv (.t 0), none, [0]⟩,
 ⟨some 2, .mv (.t 60), none, [60]⟩])
 (.ret))))
theorem c52_ctr : CtrOf 52 61 [.t 2] c52 := ctrOf Tryz.func52 (by kernel_rfl) (by kernel_rfl) rfl (by kernel_rfl) (by kernel_rfl)
def c61 : RC :=
 .seq (.reg [⟨some 2, .box (.t 0), none, [0]⟩,
 ⟨some 4, .mv (.c (.bool false)), none, []⟩])
 (.seq (.reg [⟨some 8, .fa 0 (.t 2), none, [2]⟩,
 ⟨some 9, .ld1 (.t 8), none, [8]⟩,
 ⟨some 10, .call 119 [(.t 9)], none, [9]⟩,
 ⟨some 7, .mv (.t 10), none, [10]⟩,
 ⟨some 11, .ext (.t 7) 0, none, [7]⟩,
 ⟨some 12, .ext (.t 7) 1, none, [7]⟩,
 ⟨some 5, .new [(.bool false), (.bool false), (.bool false), (.bool false), (.int .i64 0), (.int .i64 0), (.int .i64 0), (.int .i64 0)], none, []⟩,
 ⟨none, .st 8 (.t 5) (.t 11), none, [5, 11]⟩,
 ⟨some 6, .mv (.t 12), none, [12]⟩])
 (.seq (.block 0 (.seq (.seq (.reg [⟨some 14, .mv (.t 6), none, [6]⟩,
 ⟨some 15, .un .not (.t 14), none, [14]⟩,
 ⟨some 13, .mv (.t 15), none, [15]⟩])
 (.cond (.t 13)
 (.skip)
 (.seq (.reg [⟨some 16, .fa 1 (.t 2), none, [2]⟩,
 ⟨some 17, .ld1 (.t 16), none, [16]⟩,
 ⟨some 18, .call 120 [(.t 17)], none, [17]⟩,
 ⟨some 19, .un .not (.t 18), none, [18]⟩,
 ⟨some 13, .mv (.t 19), none, [19]⟩])
 (.cond (.t 13)
 (.skip)
 (.seq (.reg [⟨some 20, .fa 0 (.t 5), none, [5]⟩,
 ⟨some 21, .ld1 (.t 20), none, [20]⟩,
 ⟨some 22, .un .not (.t 21), none, [21]⟩,
 ⟨some 23, .mv (.t 22), none, [22]⟩,
 ⟨some 24, .fa 1 (.t 2), (some (23, true)), [2, 23]⟩,
 ⟨some 25, .ld1 (.t 24), (some (23, true)), [24, 23]⟩,
 ⟨some 26, .bin (.int .neq) (.t 25) (.c (.int .i64 0)), (some (23, true)), [25, 23]⟩,
 ⟨some 27, .pick (.t 23) (.t 26) (.c (.bool false)), none, [23, 26]⟩,
 ⟨some 13, .mv (.t 27), none, [27]⟩])
 (.cond (.t 13)
 (.skip)
 (.seq (.reg [⟨some 28, .fa 1 (.t 5), none, [5]⟩,
 ⟨some 29, .ld1 (.t 28), none, [28]⟩,
 ⟨some 30, .un .not (.t 29), none, [29]⟩,
 ⟨some 31, .mv (.t 30), none, [30]⟩,
 ⟨some 32, .mv (.t 1), (some (31, true)), [1, 31]⟩,
 ⟨some 33, .un .not (.t 32), (some (31, true)), [32, 31]⟩,
 ⟨some 34, .pick (.t 31) (.t 33) (.c (.bool false)), none, [31, 33]⟩,
 ⟨some 35, .mv (.t 34), none, [34]⟩,
 ⟨some 36, .fa 2 (.t 2), (some (35, true)), [2, 35]⟩,
 ⟨some 37, .ld1 (.t 36), (some (35, true)), [36, 35]⟩,
 ⟨some 38, .bin (.int .neq) (.t 37) (.c (.int .i64 0)), (some (35, true)), [37, 35]⟩,
 ⟨some 39, .pick (.t 35) (.t 38) (.c (.bool false)), none, [35, 38]⟩,
 ⟨some 13, .mv (.t 39), none, [39]⟩])
 (.cond (.t 13)
 (.skip)
 (.seq (.reg [⟨some 40, .fa 2 (.t 5), none, [5]⟩,
 ⟨some 41, .ld1 (.t 40), none, [40]⟩,
 ⟨some 42, .un .not (.t 41), none, [41]⟩,
 ⟨some 43, .mv (.t 42), none, [42]⟩,
 ⟨some 44, .fa 3 (.t 2), (some (43, true)), [2, 43]⟩,
 ⟨some 45, .ld1 (.t 44), (some (43, true)), [44, 43]⟩,
 ⟨some 46, .bin (.str .neq) (.t 45) (.c (.str [])), (some (43, true)), [45, 43]⟩,
 ⟨some 47, .pick (.t 43) (.t 46) (.c (.bool false)), none, [43, 46]⟩,
 ⟨some 13, .mv (.t 47), none, [47]⟩])
 (.cond (.t 13)
 (.skip)
 (.reg [⟨some 48, .fa 3 (.t 5), none, [5]⟩,
 ⟨some 49, .ld1 (.t 48), none, [48]⟩,
 ⟨some 50, .un .not (.t 49), none, [49]⟩,
 ⟨some 51, .mv (.t 50), none, [50]⟩,
 ⟨some 52, .fa 5 (.t 2), (some (51, true)), [2, 51]⟩,
 ⟨some 53, .ld1 (.t 52), (some (51, true)), [52, 51]⟩,
 ⟨some 54, .len .slice (.t 53), (some (51, true)), [53, 51]⟩,
 ⟨some 55, .bin (.int .gtr) (.t 54) (.c (.int .i64 0)), (some (51, true)), [54, 51]⟩,
 ⟨some 56, .pick (.t 51) (.t 55) (.c (.bool false)), none, [51, 55]⟩,
 ⟨some 13, .mv (.t 56), none, [56]⟩])))))))))))
 (.cond (.t 13)
 (.seq (.reg [⟨some 4, .mv (.c (.bool false)), none, []⟩])
 (.ret))
 (.seq (.seq (.reg [⟨some 58, .fa 4 (.t 2), none, [2]⟩,
 ⟨some 59, .ld1 (.t 58), none, [58]⟩,
 ⟨some 60, .len .slice (.t 59), none, [59]⟩,
 ⟨some 61, .fa 4 (.t 5), none, [5]⟩,
 ⟨some 62, .ldn 2 (.t 61), none, [61]⟩,
 ⟨some 63, .call 121 [(.t 60), (.t 62)], none, [60, 62]⟩,
 ⟨some 64, .un .not (.t 63), none, [63]⟩,
 ⟨some 57, .mv (.t 64), none, [64]⟩])
 (.cond (.t 57)
 (.skip)
 (.seq (.reg [⟨some 65, .fa 6 (.t 2), none, [2]⟩,
 ⟨some 66, .ld1 (.t 65), none, [65]⟩,
 ⟨some 67, .len .slice (.t 66), none, [66]⟩,
 ⟨some 68, .fa 6 (.t 5), none, [5]⟩,
 ⟨some 69, .ldn 2 (.t 68), none, [68]⟩,
 ⟨some 70, .call 121 [(.t 67), (.t 69)], none, [67, 69]⟩,
 ⟨some 71, .un .not (.t 70), none, [70]⟩,
 ⟨some 57, .mv (.t 71), none, [71]⟩])
 (.cond (.t 57)
 (.skip)
 (.reg [⟨some 72, .fa 2 (.t 2), none, [2]⟩,
 ⟨some 73, .ld1 (.t 72), none, [72]⟩,
 ⟨some 74, .call 120 [(.t 73)], none, [73]⟩,
 ⟨some 75, .un .not (.t 74), none, [74]⟩,
 ⟨some 57, .mv (.t 75), none, [75]⟩])))))
 (.cond (.t 57)
 (.seq (.reg [⟨some 4, .mv (.c (.bool false)), none, []⟩])
 (.ret))
 (.seq (.seq (.reg [⟨some 77, .fa 0 (.t 2), none, [2]⟩,
 ⟨some 78, .ld1 (.t 77), none, [77]⟩,
 ⟨some 79, .bin (.int .eql) (.t 78) (.c (.int .i64 5)), none, [78]⟩,
 ⟨some 80, .mv (.t 79), none, [79]⟩,
 ⟨some 81, .fa 2 (.t 2), (some (80, true)), [2, 80]⟩,
 ⟨some 82, .ld1 (.t 81), (some (80, true)), [81, 80]⟩,
 ⟨some 83, .bin (.int .geq) (.t 82) (.c (.int .i64 1024)), (some (80, true)), [82, 80]⟩,
 ⟨some 84, .pick (.t 80) (.t 83) (.c (.bool false)), none, [80, 83]⟩,
 ⟨some 76, .mv (.t 84), none, [84]⟩])
 (.cond (.t 76)
 (.skip)
 (.seq (.draw [⟨some 85, .fa 0 (.t 2), none, [2]⟩,
 ⟨some 86, .ld1 (.t 85), none, [85]⟩,
 ⟨some 87, .bin (.int .eql) (.t 86) (.c (.int .i64 3)), none, [86]⟩,
 ⟨some 88, .mv (.t 87), none, [87]⟩,
 ⟨some 90, .fa 3 (.t 2), (some (88, true)), [2, 88]⟩,
 ⟨some 91, .ld1 (.t 90), (some (88, true)), [90, 88]⟩,
 ⟨some 93, .fa 4 (.t 2), (some (88, true)), [2, 88]⟩,
 ⟨some 94, .ld1 (.t 93), (some (88, true)), [93, 88]⟩,
 ⟨some 95, .len .slice (.t 94), (some (88, true)), [94, 88]⟩,
 ⟨some 89, .call 122 [], (some (88, true)), [88]⟩,
 ⟨some 92, .look .str (.int .i64 0) false (.t 89) (.t 91), (some (88, true)), [89, 91, 88]⟩,
 ⟨some 96, .bin (.int .neq) (.t 92) (.t 95), (some (88, true)), [92, 95, 88]⟩,
 ⟨some 97, .pick (.t 88) (.t 96) (.c (.bool false)), none, [88, 96]⟩,
 ⟨some 76, .mv (.t 97), none, [97]⟩] [(1, [9]), (5, [9, 14]), (10, [14]), (7, [9, 14])])
 (.cond (.t 76)
 (.skip)
 (.reg [⟨some 98, .fa 3 (.t 5), none, [5]⟩,
 ⟨some 99, .ld1 (.t 98), none, [98]⟩,
 ⟨some 100, .mv (.t 99), none, [99]⟩,
 ⟨some 101, .ldn 7 (.t 2), (some (100, true)), [2, 100]⟩,
 ⟨some 102, .call 123 [(.t 101)], (some (100, true)), [101, 100]⟩,
 ⟨some 103, .un .not (.t 102), (some (100, true)), [102, 100]⟩,
 ⟨some 104, .pick (.t 100) (.t 103) (.c (.bool false)), none, [100, 103]⟩,
 ⟨some 76, .mv (.t 104), none, [104]⟩])))))
 (.cond (.t 76)
 (.seq (.reg [⟨some 4, .mv (.c (.bool false)), none, []⟩])
 (.ret))
 (.skip))))))))
 (.seq (.reg [⟨some 105, .fa 4 (.t 2), none, [2]⟩,
 ⟨some 106, .ld1 (.t 105), none, [105]⟩,
 ⟨some 107, .call 124 [(.t 106), (.c (.func 125 []))], none, [106]⟩,
 ⟨some 108, .un .not (.t 107), none, [107]⟩,
 ⟨some 4, .mv (.t 108), none, [108]⟩])
 (.ret))))
theorem c61_ctr : CtrOf 61 109 [.t 4] c61 := ctrOf Tryz.func61 (by kernel_rfl) (by kernel_rfl) rfl (by kernel_rfl) (by kernel_rfl)
def c62 : RC :=
 .seq (.reg [⟨some 4, .mv (.c (.bool false)), none, []⟩])
 (.seq (.reg [⟨some 5, .mv (.t 0), none, [0]⟩,
 ⟨some 6, .mv (.t 1), none, [1]⟩,
 ⟨some 7, .call 127 [(.t 5), (.t 6)], none, [5, 6]⟩,
 ⟨some 8, .bin (.int .geq) (.t 7) (.c (.int .i64 0)), none, [7]⟩,
 ⟨some 4, .mv (.t 8), none, [8]⟩])
 (.ret))
theorem c62_ctr : CtrOf 62 9 [.t 4] c62 := ctrOf Tryz.func62 (by kernel_rfl) (by kernel_rfl) rfl (by kernel_rfl) (by kernel_rfl)
def c63 : RC :=
 .seq (.reg [⟨some 1, .box (.t 0), none, [0]⟩,
 ⟨some 2, .mv (.c (.bool false)), none, []⟩])
 (.seq (.reg [⟨some 3, .ldn 7 (.t 1), none, [1]⟩,
 ⟨some 4, .call 44 [(.t 3)], none, [3]⟩,
 ⟨some 5, .un .not (.t 4), none, [4]⟩,
 ⟨some 2, .mv (.t 5), none, [5]⟩])
 (.ret))
theorem c63_ctr : CtrOf 63 6 [.t 2] c63 := ctrOf Tryz.func63 (by kernel_rfl) (by kernel_rfl) rfl (by kernel_rfl) (by kernel_rfl)
def c64l1 : RC :=
 .seq (.reg [⟨some 14, .bin (.int .lss) (.t 13) (.t 12), none, [13, 12]⟩])
 (.seq (.cond (.t 14)
 (.skip)
 (.exit 0))
 (.seq (.block 1 (.seq (.reg [⟨some 15, .mv (.t 13), none, [13]⟩,
 ⟨some 16, .ia 7 (.t 11) (.t 13), none, [11, 13]⟩,
 ⟨some 17, .ldn 7 (.t 16), none, [16]⟩,
 ⟨some 5, .new [(.int .i64 0), (.int .i64 0), (.int .i64 0), (.str []), .nilslice, .nilslice, .nilslice], none, []⟩,
 ⟨some 4, .mv (.t 15), none, [15]⟩,
 ⟨none, .st 7 (.t 5) (.t 17), none, [5, 17]⟩])
 (.seq (.seq (.reg [⟨some 18, .mv (.t 4), none, [4]⟩,
 ⟨some 19, .bin (.int .eql) (.t 18) (.c (.int .i64 1)), none, [18]⟩,
 ⟨some 20, .mv (.t 19), none, [19]⟩,
 ⟨some 21, .fa 0 (.t 3), (some (20, true)), [3, 20]⟩,
 ⟨some 22, .ld1 (.t 21), (some (20, true)), [21, 20]⟩,
 ⟨some 23, .bin (.int .eql) (.t 22) (.c (.int .i64 2)), (some (20, true)), [22, 20]⟩,
 ⟨some 24, .mv (.t 23), (some (20, true)), [23, 20]⟩,
 ⟨some 25, .fa 0 (.t 3), (some (24, false)), [3, 24]⟩,
 ⟨some 26, .ld1 (.t 25), (some (24, false)), [25, 24]⟩,
 ⟨some 27, .bin (.int .eql) (.t 26) (.c (.int .i64 11)), (some (24, false)), [26, 24]⟩,
 ⟨some 28, .pick (.t 24) (.c (.bool true)) (.t 27), (some (20, true)), [24, 27, 20]⟩,
 ⟨some 29, .pick (.t 20) (.t 28) (.c (.bool false)), none, [20, 28]⟩])
 (.cond (.t 29)
 (.reg [⟨some 30, .ld1 (.t 1), none, [1]⟩,
 ⟨some 31, .fa 1 (.t 3), none, [3]⟩,
 ⟨some 32, .ld1 (.t 31), none, [31]⟩,
 ⟨some 33, .bsl 1 1 [(.int .i64 0)] [(0, 1, (.t 32))], none, [32]⟩,
 ⟨some 34, .app 1 (.t 30) (.t 33), none, [30, 33]⟩,
 ⟨none, .st 1 (.t 1) (.t 34), none, [1, 34]⟩])
 (.skip)))
 (.reg [⟨some 35, .ld1 (.t 2), none, [2]⟩,
 ⟨some 36, .ldn 7 (.t 5), none, [5]⟩,
 ⟨some 37, .callv (.t 35) [(.t 36)], none, [35, 36]⟩]))))
 (.reg [⟨some 38, .bin (.int .add) (.t 13) (.c (.int .i64 1)), none, [13]⟩,
 ⟨some 13, .mv (.t 38), none, [38]⟩])))
def c64 : RC :=
 .seq (.reg [⟨some 3, .box (.t 0), none, [0]⟩])
 (.seq (.draw [⟨some 6, .ld1 (.t 1), none, [1]⟩,
 ⟨some 7, .ldn 7 (.t 3), none, [3]⟩,
 ⟨some 8, .call 65 [(.t 7)], none, [7]⟩,
 ⟨some 9, .app 1 (.t 6) (.t 8), none, [6, 8]⟩,
 ⟨none, .st 1 (.t 1) (.t 9), none, [1, 9]⟩] [(0, [2, 3]), (1, [2])])
 (.seq (.reg [⟨some 10, .fa 6 (.t 3), none, [3]⟩,
 ⟨some 11, .ld1 (.t 10), none, [10]⟩,
 ⟨some 12, .len .slice (.t 11), none, [11]⟩,
 ⟨some 13, .mv (.c (.int .i64 0)), none, []⟩])
 (.block 0 (.loop c64l1))))
theorem c64_ctr : CtrOf 64 39 [] c64 := ctrOf Tryz.func64 (by kernel_rfl) (by kernel_rfl) rfl (by kernel_rfl) (by kernel_rfl)
def c65l1 : RC :=
 .seq (.reg [⟨some 26, .bin (.int .lss) (.t 25) (.t 24), none, [25, 24]⟩])
 (.seq (.cond (.t 26)
 (.skip)
 (.exit 1))
 (.seq (.block 2 (.seq (.reg [⟨some 27, .ia 7 (.t 23) (.t 25), none, [23, 25]⟩,
 ⟨some 28, .ldn 7 (.t 27), none, [27]⟩,
 ⟨some 5, .new [(.int .i64 0), (.int .i64 0), (.int .i64 0), (.str []), .nilslice, .nilslice, .nilslice], none, []⟩,
 ⟨none, .st 7 (.t 5) (.t 28), none, [5, 28]⟩])
 (.reg [⟨some 29, .mv (.t 3), none, [3]⟩,
 ⟨some 30, .fa 2 (.t 5), none, [5]⟩,
 ⟨some 31, .ld1 (.t 30), none, [30]⟩,
 ⟨some 32, .bsl 1 1 [(.int .i64 0)] [(0, 1, (.t 31))], none, [31]⟩,
 ⟨some 33, .app 1 (.t 29) (.t 32), none, [29, 32]⟩,
 ⟨some 3, .mv (.t 33), none, [33]⟩])))
 (.reg [⟨some 34, .bin (.int .add) (.t 25) (.c (.int .i64 1)), none, [25]⟩,
 ⟨some 25, .mv (.t 34), none, [34]⟩])))
def c65l2 : RC :=
 .seq (.reg [⟨some 42, .bin (.int .lss) (.t 41) (.t 40), none, [41, 40]⟩])
 (.seq (.cond (.t 42)
 (.skip)
 (.exit 3))
 (.seq (.block 4 (.seq (.reg [⟨some 43, .mv (.t 41), none, [41]⟩,
 ⟨some 7, .mv (.t 43), none, [43]⟩])
 (.reg [⟨some 44, .mv (.t 6), none, [6]⟩,
 ⟨some 45, .fa 1 (.t 1), none, [1]⟩,
 ⟨some 46, .ld1 (.t 45), none, [45]⟩,
 ⟨some 47, .mv (.t 7), none, [7]⟩,
 ⟨some 48, .bin (.int .add) (.t 46) (.t 47), none, [46, 47]⟩,
 ⟨some 49, .bsl 1 1 [(.int .i64 0)] [(0, 1, (.t 48))], none, [48]⟩,
 ⟨some 50, .app 1 (.t 44) (.t 49), none, [44, 49]⟩,
 ⟨some 6, .mv (.t 50), none, [50]⟩])))
 (.reg [⟨some 51, .bin (.int .add) (.t 41) (.c (.int .i64 1)), none, [41]⟩,
 ⟨some 41, .mv (.t 51), none, [51]⟩])))
def c65 : RC :=
 .seq (.reg [⟨some 1, .box (.t 0), none, [0]⟩,
 ⟨some 2, .mv (.c .nilslice), none, []⟩])
 (.seq (.seq (.reg [⟨some 8, .fa 0 (.t 1), none, [1]⟩,
 ⟨some 9, .ld1 (.t 8), none, [8]⟩])
 (.block 0 (.seq (.reg [⟨some 11, .bin (.int .eql) (.t 9) (.c (.int .i64 7)), none, [9]⟩,
 ⟨some 10, .mv (.t 11), none, [11]⟩])
 (.cond (.t 10)
 (.seq (.reg [⟨some 12, .fa 1 (.t 1), none, [1]⟩,
 ⟨some 13, .ld1 (.t 12), none, [12]⟩,
 ⟨some 14, .bsl 1 1 [(.int .i64 0)] [(0, 1, (.t 13))], none, [13]⟩,
 ⟨some 2, .mv (.t 14), none, [14]⟩])
 (.ret))
 (.seq (.reg [⟨some 16, .bin (.int .eql) (.t 9) (.c (.int .i64 8)), none, [9]⟩,
 ⟨some 15, .mv (.t 16), none, [16]⟩])
 (.cond (.t 15)
 (.seq (.reg [⟨some 3, .mv (.c .nilslice), none, []⟩])
 (.seq (.seq (.reg [⟨some 17, .fa 6 (.t 1), none, [1]⟩,
 ⟨some 18, .ld1 (.t 17), none, [17]⟩,
 ⟨some 19, .fa 6 (.t 1), none, [1]⟩,
 ⟨some 20, .ld1 (.t 19), none, [19]⟩,
 ⟨some 21, .len .slice (.t 20), none, [20]⟩,
 ⟨some 22, .bin (.int .sub) (.t 21) (.c (.int .i64 1)), none, [21]⟩,
 ⟨some 23, .sl 7 (.t 18) none (some (.t 22)) none, none, [18, 22]⟩,
 ⟨some 24, .len .slice (.t 23), none, [23]⟩,
 ⟨some 25, .mv (.c (.int .i64 0)), none, []⟩])
 (.block 1 (.loop c65l1)))
 (.seq (.reg [⟨some 35, .mv (.t 3), none, [3]⟩,
 ⟨some 2, .mv (.t 35), none, [35]⟩])
 (.ret))))
 (.seq (.reg [⟨some 37, .bin (.int .eql) (.t 9) (.c (.int .i64 14)), none, [9]⟩,
 ⟨some 36, .mv (.t 37), none, [37]⟩])
 (.cond (.t 36)
 (.seq (.reg [⟨some 6, .mv (.c .nilslice), none, []⟩])
 (.seq (.seq (.reg [⟨some 38, .fa 5 (.t 1), none, [1]⟩,
 ⟨some 39, .ld1 (.t 38), none, [38]⟩,
 ⟨some 40, .len .slice (.t 39), none, [39]⟩,
 ⟨some 41, .mv (.c (.int .i64 0)), none, []⟩])
 (.block 3 (.loop c65l2)))
 (.seq (.reg [⟨some 52, .mv (.t 6), none, [6]⟩,
 ⟨some 2, .mv (.t 52), none, [52]⟩])
 (.ret))))
 (.skip)))))))))
 (.seq (.reg [⟨some 2, .mv (.c .nilslice), none, []⟩])
 (.ret)))
theorem c65_ctr : CtrOf 65 53 [.t 2] c65 := ctrOf Tryz.func65 (by kernel_rfl) (by kernel_rfl) rfl (by kernel_rfl) (by kernel_rfl)
def c66l1 : RC :=
 .seq (.reg [⟨some 19, .bin (.int .lss) (.t 18) (.t 17), none, [18, 17]⟩])
 (.seq (.cond (.t 19)
 (.skip)
 (.exit 0))
 (.seq (.block 1 (.seq (.reg [⟨some 20, .ia 3 (.t 16) (.t 18), none, [16, 18]⟩,
 ⟨some 21, .ldn 3 (.t 20), none, [20]⟩,
 ⟨some 6, .new [(.int .i64 0), (.int .i64 0), (.str [])], none, []⟩,
 ⟨none, .st 3 (.t 6) (.t 21), none, [6, 21]⟩])
 (.seq (.reg [⟨some 22, .fa 0 (.t 6), none, [6]⟩,
 ⟨some 23, .ld1 (.t 22), none, [22]⟩,
 ⟨some 24, .bin (.int .eql) (.t 23) (.c (.int .i64 1)), none, [23]⟩,
 ⟨some 25, .mv (.t 24), none, [24]⟩,
 ⟨some 26, .ld1 (.t 1), (some (25, true)), [1, 25]⟩,
 ⟨some 27, .fa 1 (.t 6), (some (25, true)), [6, 25]⟩,
 ⟨some 28, .ld1 (.t 27), (some (25, true)), [27, 25]⟩,
 ⟨some 29, .look .int (.int .i64 0) false (.t 26) (.t 28), (some (25, true)), [26, 28, 25]⟩,
 ⟨some 30, .bin (.int .eql) (.t 29) (.c (.int .i64 0)), (some (25, true)), [29, 25]⟩,
 ⟨some 31, .pick (.t 25) (.t 30) (.c (.bool false)), none, [25, 30]⟩])
 (.cond (.t 31)
 (.reg [⟨some 32, .ld1 (.t 2), none, [2]⟩,
 ⟨some 33, .fa 1 (.t 6), none, [6]⟩,
 ⟨some 34, .ld1 (.t 33), none, [33]⟩,
 ⟨none, .upd .int (.t 32) (.t 34) (.c (.bool true)), none, [32, 34]⟩])
 (.skip)))))
 (.reg [⟨some 35, .bin (.int .add) (.t 18) (.c (.int .i64 1)), none, [18]⟩,
 ⟨some 18, .mv (.t 35), none, [35]⟩])))
def c66l2 : RC :=
 .seq (.reg [⟨some 41, .bin (.int .lss) (.t 40) (.t 39), none, [40, 39]⟩])
 (.seq (.cond (.t 41)
 (.skip)
 (.exit 2))
 (.seq (.block 3 (.seq (.reg [⟨some 42, .ia 1 (.t 38) (.t 40), none, [38, 40]⟩,
 ⟨some 43, .ld1 (.t 42), none, [42]⟩,
 ⟨some 9, .mv (.t 43), none, [43]⟩])
 (.reg [⟨some 44, .ld1 (.t 1), none, [1]⟩,
 ⟨some 45, .mv (.t 9), none, [9]⟩,
 ⟨some 46, .look .int (.int .i64 0) false (.t 44) (.t 45), none, [44, 45]⟩,
 ⟨some 47, .bin (.int .add) (.t 46) (.c (.int .i64 1)), none, [46]⟩,
 ⟨none, .upd .int (.t 44) (.t 45) (.t 47), none, [44, 45, 47]⟩])))
 (.reg [⟨some 48, .bin (.int .add) (.t 40) (.c (.int .i64 1)), none, [40]⟩,
 ⟨some 40, .mv (.t 48), none, [48]⟩])))
def c66l3 : RC :=
 .seq (.reg [⟨some 53, .bin (.int .lss) (.t 52) (.t 51), none, [52, 51]⟩])
 (.seq (.cond (.t 53)
 (.skip)
 (.exit 4))
 (.seq (.block 5 (.seq (.reg [⟨some 54, .mv (.t 52), none, [52]⟩,
 ⟨some 55, .ia 7 (.t 50) (.t 52), none, [50, 52]⟩,
 ⟨some 56, .ldn 7 (.t 55), none, [55]⟩,
 ⟨some 11, .new [(.int .i64 0), (.int .i64 0), (.int .i64 0), (.str []), .nilslice, .nilslice, .nilslice], none, []⟩,
 ⟨some 10, .mv (.t 54), none, [54]⟩,
 ⟨none, .st 7 (.t 11) (.t 56), none, [11, 56]⟩])
 (.seq (.reg [⟨some 57, .mv (.t 10), none, [10]⟩,
 ⟨some 58, .bin (.int .eql) (.t 57) (.c (.int .i64 1)), none, [57]⟩,
 ⟨some 59, .mv (.t 58), none, [58]⟩,
 ⟨some 60, .fa 0 (.t 4), (some (59, true)), [4, 59]⟩,
 ⟨some 61, .ld1 (.t 60), (some (59, true)), [60, 59]⟩,
 ⟨some 62, .bin (.int .eql) (.t 61) (.c (.int .i64 2)), (some (59, true)), [61, 59]⟩,
 ⟨some 63, .mv (.t 62), (some (59, true)), [62, 59]⟩,
 ⟨some 64, .fa 0 (.t 4), (some (63, false)), [4, 63]⟩,
 ⟨some 65, .ld1 (.t 64), (some (63, false)), [64, 63]⟩,
 ⟨some 66, .bin (.int .eql) (.t 65) (.c (.int .i64 11)), (some (63, false)), [65, 63]⟩,
 ⟨some 67, .pick (.t 63) (.c (.bool true)) (.t 66), (some (59, true)), [63, 66, 59]⟩,
 ⟨some 68, .pick (.t 59) (.t 67) (.c (.bool false)), none, [59, 67]⟩,
 ⟨some 12, .mv (.t 68), none, [68]⟩])
 (.seq (.seq (.reg [⟨some 69, .mv (.t 12), none, [12]⟩])
 (.cond (.t 69)
 (.reg [⟨some 70, .ld1 (.t 1), none, [1]⟩,
 ⟨some 71, .fa 1 (.t 4), none, [4]⟩,
 ⟨some 72, .ld1 (.t 71), none, [71]⟩,
 ⟨some 73, .look .int (.int .i64 0) false (.t 70) (.t 72), none, [70, 72]⟩,
 ⟨some 74, .bin (.int .add) (.t 73) (.c (.int .i64 1)), none, [73]⟩,
 ⟨none, .upd .int (.t 70) (.t 72) (.t 74), none, [70, 72, 74]⟩])
 (.skip)))
 (.seq (.reg [⟨some 75, .ld1 (.t 3), none, [3]⟩,
 ⟨some 76, .ldn 7 (.t 11), none, [11]⟩,
 ⟨some 77, .callv (.t 75) [(.t 76)], none, [75, 76]⟩])
 (.seq (.reg [⟨some 78, .mv (.t 12), none, [12]⟩])
 (.cond (.t 78)
 (.reg [⟨some 79, .ld1 (.t 1), none, [1]⟩,
 ⟨some 80, .fa 1 (.t 4), none, [4]⟩,
 ⟨some 81, .ld1 (.t 80), none, [80]⟩,
 ⟨some 82, .look .int (.int .i64 0) false (.t 79) (.t 81), none, [79, 81]⟩,
 ⟨some 83, .bin (.int .sub) (.t 82) (.c (.int .i64 1)), none, [82]⟩,
 ⟨none, .upd .int (.t 79) (.t 81) (.t 83), none, [79, 81, 83]⟩])
 (.skip))))))))
 (.reg [⟨some 84, .bin (.int .add) (.t 52) (.c (.int .i64 1)), none, [52]⟩,
 ⟨some 52, .mv (.t 84), none, [84]⟩])))
def c66l4 : RC :=
 .seq (.reg [⟨some 88, .bin (.int .lss) (.t 87) (.t 86), none, [87, 86]⟩])
 (.seq (.cond (.t 88)
 (.skip)
 (.exit 6))
 (.seq (.block 7 (.seq (.reg [⟨some 89, .ia 1 (.t 85) (.t 87), none, [85, 87]⟩,
 ⟨some 90, .ld1 (.t 89), none, [89]⟩,
 ⟨some 14, .mv (.t 90), none, [90]⟩])
 (.reg [⟨some 91, .ld1 (.t 1), none, [1]⟩,
 ⟨some 92, .mv (.t 14), none, [14]⟩,
 ⟨some 93, .look .int (.int .i64 0) false (.t 91) (.t 92), none, [91, 92]⟩,
 ⟨some 94, .bin (.int .sub) (.t 93) (.c (.int .i64 1)), none, [93]⟩,
 ⟨none, .upd .int (.t 91) (.t 92) (.t 94), none, [91, 92, 94]⟩])))
 (.reg [⟨some 95, .bin (.int .add) (.t 87) (.c (.int .i64 1)), none, [87]⟩,
 ⟨some 87, .mv (.t 95), none, [95]⟩])))
def c66 : RC :=
 .seq (.reg [⟨some 4, .box (.t 0), none, [0]⟩])
 (.seq (.seq (.reg [⟨some 15, .fa 4 (.t 4), none, [4]⟩,
 ⟨some 16, .ld1 (.t 15), none, [15]⟩,
 ⟨some 17, .len .slice (.t 16), none, [16]⟩,
 ⟨some 18, .mv (.c (.int .i64 0)), none, []⟩])
 (.block 0 (.loop c66l1)))
 (.seq (.reg [⟨some 36, .ldn 7 (.t 4), none, [4]⟩,
 ⟨some 37, .call 65 [(.t 36)], none, [36]⟩,
 ⟨some 7, .mv (.t 37), none, [37]⟩])
 (.seq (.seq (.reg [⟨some 38, .mv (.t 7), none, [7]⟩,
 ⟨some 39, .len .slice (.t 38), none, [38]⟩,
 ⟨some 40, .mv (.c (.int .i64 0)), none, []⟩])
 (.block 2 (.loop c66l2)))
 (.seq (.seq (.reg [⟨some 49, .fa 6 (.t 4), none, [4]⟩,
 ⟨some 50, .ld1 (.t 49), none, [49]⟩,
 ⟨some 51, .len .slice (.t 50), none, [50]⟩,
 ⟨some 52, .mv (.c (.int .i64 0)), none, []⟩])
 (.block 4 (.loop c66l3)))
 (.seq (.reg [⟨some 85, .mv (.t 7), none, [7]⟩,
 ⟨some 86, .len .slice (.t 85), none, [85]⟩,
 ⟨some 87, .mv (.c (.int .i64 0)), none, []⟩])
 (.block 6 (.loop c66l4)))))))
theorem c66_ctr : CtrOf 66 96 [] c66 := ctrOf Tryz.func66 (by kernel_rfl) (by kernel_rfl) rfl (by kernel_rfl) (by kernel_rfl)
def c119 : RC :=
 .seq (.reg [⟨some 2, .new [(.bool false), (.bool false), (.bool false), (.bool false), (.int .i64 0), (.int .i64 0), (.int .i64 0), (.int .i64 0)], none, []⟩,
 ⟨some 3, .mv (.c (.bool false)), none, []⟩])
 (.seq (.reg [⟨some 5, .build [(.int .i64 0), (.int .i64 0)] [(0, 1, (.c (.int .i64 1))), (1, 1, (.c (.int .i64 1)))], none, []⟩,
 ⟨some 6, .build [(.bool false), (.bool false), (.bool false), (.bool false), (.int .i64 0), (.int .i64 0), (.int .i64 0), (.int .i64 0)] [(4, 2, (.t 5))], none, [5]⟩,
 ⟨some 7, .build [(.int .i64 0), (.int .i64 0)] [(0, 1, (.c (.int .i64 1))), (1, 1, (.c (.int .i64 1)))], none, []⟩,
 ⟨some 8, .build [(.bool false), (.bool false), (.bool false), (.bool false), (.int .i64 0), (.int .i64 0), (.int .i64 0), (.int .i64 0)] [(4, 2, (.t 7))], none, [7]⟩,
 ⟨some 9, .build [(.int .i64 0), (.int .i64 0)] [(0, 1, (.c (.int .i64 2))), (1, 1, (.c (.int .i64 2)))], none, []⟩,
 ⟨some 10, .build [(.bool false), (.bool false), (.bool false), (.bool false), (.int .i64 0), (.int .i64 0), (.int .i64 0), (.int .i64 0)] [(0, 1, (.c (.bool true))), (6, 2, (.t 9))], none, [9]⟩,
 ⟨some 11, .build [(.int .i64 0), (.int .i64 0)] [(0, 1, (.c (.int .i64 2))), (1, 1, (.c (.int .i64 2)))], none, []⟩,
 ⟨some 12, .build [(.bool false), (.bool false), (.bool false), (.bool false), (.int .i64 0), (.int .i64 0), (.int .i64 0), (.int .i64 0)] [(0, 1, (.c (.bool true))), (6, 2, (.t 11))], none, [11]⟩,
 ⟨some 13, .build [(.int .i64 0), (.int .i64 0)] [(0, 1, (.c (.int .i64 1))), (1, 1, (.c (.int .i64 3)))], none, []⟩,
 ⟨some 14, .build [(.bool false), (.bool false), (.bool false), (.bool false), (.int .i64 0), (.int .i64 0), (.int .i64 0), (.int .i64 0)] [(2, 1, (.c (.bool true))), (4, 2, (.t 13))], none, [13]⟩,
 ⟨some 15, .build [(.int .i64 0), (.int .i64 0)] [(0, 1, (.c (.int .i64 0))), (1, 1, (.c (.int .i64 1024)))], none, []⟩,
 ⟨some 16, .build [(.bool false), (.bool false), (.bool false), (.bool false), (.int .i64 0), (.int .i64 0), (.int .i64 0), (.int .i64 0)] [(1, 1, (.c (.bool true))), (4, 2, (.t 15))], none, [15]⟩,
 ⟨some 17, .build [(.int .i64 0), (.int .i64 0)] [(0, 1, (.c (.int .i64 1))), (1, 1, (.c (.int .i64 1)))], none, []⟩,
 ⟨some 18, .build [(.bool false), (.bool false), (.bool false), (.bool false), (.int .i64 0), (.int .i64 0), (.int .i64 0), (.int .i64 0)] [(1, 1, (.c (.bool true))), (4, 2, (.t 17))], none, [17]⟩,
 ⟨some 19, .build [(.int .i64 0), (.int .i64 0)] [(0, 1, (.c (.int .i64 2))), (1, 1, (.c (.int .i64 2)))], none, []⟩,
 ⟨some 20, .build [(.bool false), (.bool false), (.bool false), (.bool false), (.int .i64 0), (.int .i64 0), (.int .i64 0), (.int .i64 0)] [(4, 2, (.t 19))], none, [19]⟩,
 ⟨some 21, .build [(.int .i64 0), (.int .i64 0)] [(0, 1, (.c (.int .i64 1))), (1, 1, (.c (.int .i64 1)))], none, []⟩,
 ⟨some 22, .build [(.bool false), (.bool false), (.bool false), (.bool false), (.int .i64 0), (.int .i64 0), (.int .i64 0), (.int .i64 0)] [(0, 1, (.c (.bool true))), (6, 2, (.t 21))], none, [21]⟩,
 ⟨some 23, .build [(.int .i64 0), (.int .i64 0)] [(0, 1, (.c (.int .i64 1))), (1, 1, (.c (.int .i64 1)))], none, []⟩,
 ⟨some 24, .build [(.int .i64 0), (.int .i64 0)] [(0, 1, (.c (.int .i64 1))), (1, 1, (.c (.int .i64 1073741824)))], none, []⟩,
 ⟨some 25, .build [(.bool false), (.bool false), (.bool false), (.bool false), (.int .i64 0), (.int .i64 0), (.int .i64 0), (.int .i64 0)] [(3, 1, (.c (.bool true))), (4, 2, (.t 23)), (6, 2, (.t 24))], none, [23, 24]⟩,
 ⟨some 26, .build [(.int .i64 0), (.int .i64 0)] [(0, 1, (.c (.int .i64 1))), (1, 1, (.c (.int .i64 1)))], none, []⟩,
 ⟨some 27, .build [(.int .i64 0), (.int .i64 0)] [(0, 1, (.c (.int .i64 1))), (1, 1, (.c (.int .i64 1073741824)))], none, []⟩,
 ⟨some 28, .build [(.bool false), (.bool false), (.bool false), (.bool false), (.int .i64 0), (.int .i64 0), (.int .i64 0), (.int .i64 0)] [(3, 1, (.c (.bool true))), (4, 2, (.t 26)), (6, 2, (.t 27))], none, [26, 27]⟩,
 ⟨some 29, .build [(.bool false), (.bool false), (.bool false), (.bool false), (.int .i64 0), (.int .i64 0), (.int .i64 0), (.int .i64 0), (.bool false), (.bool false), (.bool false), (.bool false), (.int .i64 0), (.int .i64 0), (.int .i64 0), (.int .i64 0), (.bool false), (.bool false), (.bool false), (.bool false), (.int .i64 0), (.int .i64 0), (.int .i64 0), (.int .i64 0), (.bool false), (.bool false), (.bool false), (.bool false), (.int .i64 0), (.int .i64 0), (.int .i64 0), (.int .i64 0), (.bool false), (.bool false), (.bool false), (.bool false), (.int .i64 0), (.int .i64 0), (.int .i64 0), (.int .i64 0), (.bool false), (.bool false), (.bool false), (.bool false), (.int .i64 0), (.int .i64 0), (.int .i64 0), (.int .i64 0), (.bool false), (.bool false), (.bool false), (.bool false), (.int .i64 0), (.int .i64 0), (.int .i64 0), (.int .i64 0), (.bool false), (.bool false), (.bool false), (.bool false), (.int .i64 0), (.int .i64 0), (.int .i64 0), (.int .i64 0), (.bool false), (.bool false), (.bool false), (.bool false), (.int .i64 0), (.int .i64 0), (.int .i64 0), (.int .i64 0), (.bool false), (.bool false), (.bool false), (.bool false), (.int .i64 0), (.int .i64 0), (.int .i64 0), (.int .i64 0), (.bool false), (.bool false), (.bool false), (.bool false), (.int .i64 0), (.int .i64 0), (.int .i64 0), (.int .i64 0), (.bool false), (.bool false), (.bool false), (.bool false), (.int .i64 0), (.int .i64 0), (.int .i64 0), (.int .i64 0), (.bool false), (.bool false), (.bool false), (.bool false), (.int .i64 0), (.int .i64 0), (.int .i64 0), (.int .i64 0)] [(8, 8, (.t 6)), (96, 8, (.t 8)), (16, 8, (.t 10)), (88, 8, (.t 12)), (24, 8, (.t 14)), (32, 8, (.t 16)), (40, 8, (.t 18)), (48, 8, (.t 20)), (56, 8, (.t 22)), (72, 8, (.t 25)), (80, 8, (.t 28))], none, [6, 8, 10, 12, 14, 16, 18, 20, 22, 25, 28]⟩,
 ⟨some 4, .new [(.bool false), (.bool false), (.bool false), (.bool false), (.int .i64 0), (.int .i64 0), (.int .i64 0), (.int .i64 0), (.bool false), (.bool false), (.bool false), (.bool false), (.int .i64 0), (.int .i64 0), (.int .i64 0), (.int .i64 0), (.bool false), (.bool false), (.bool false), (.bool false), (.int .i64 0), (.int .i64 0), (.int .i64 0), (.int .i64 0), (.bool false), (.bool false), (.bool false), (.bool false), (.int .i64 0), (.int .i64 0), (.int .i64 0), (.int .i64 0), (.bool false), (.bool false), (.bool false), (.bool false), (.int .i64 0), (.int .i64 0), (.int .i64 0), (.int .i64 0), (.bool false), (.bool false), (.bool false), (.bool false), (.int .i64 0), (.int .i64 0), (.int .i64 0), (.int .i64 0), (.bool false), (.bool false), (.bool false), (.bool false), (.int .i64 0), (.int .i64 0), (.int .i64 0), (.int .i64 0), (.bool false), (.bool false), (.bool false), (.bool false), (.int .i64 0), (.int .i64 0), (.int .i64 0), (.int .i64 0), (.bool false), (.bool false), (.bool false), (.bool false), (.int .i64 0), (.int .i64 0), (.int .i64 0), (.int .i64 0), (.bool false), (.bool false), (.bool false), (.bool false), (.int .i64 0), (.int .i64 0), (.int .i64 0), (.int .i64 0), (.bool false), (.bool false), (.bool false), (.bool false), (.int .i64 0), (.int .i64 0), (.int .i64 0), (.int .i64 0), (.bool false), (.bool false), (.bool false), (.bool false), (.int .i64 0), (.int .i64 0), (.int .i64 0), (.int .i64 0), (.bool false), (.bool false), (.bool false), (.bool false), (.int .i64 0), (.int .i64 0), (.int .i64 0), (.int .i64 0)], none, []⟩,
 ⟨none, .st 104 (.t 4) (.t 29), none, [4, 29]⟩])
 (.seq (.seq (.reg [⟨some 30, .mv (.t 0), none, [0]⟩,
 ⟨some 31, .bin (.int .leq) (.t 30) (.c (.int .i64 0)), none, [30]⟩,
 ⟨some 32, .mv (.t 31), none, [31]⟩,
 ⟨some 33, .mv (.t 0), (some (32, false)), [0, 32]⟩,
 ⟨some 34, .bin (.int .geq) (.t 33) (.c (.int .i64 13)), (some (32, false)), [33, 32]⟩,
 ⟨some 35, .pick (.t 32) (.c (.bool true)) (.t 34), none, [32, 34]⟩,
 ⟨some 36, .mv (.t 35), none, [35]⟩,
 ⟨some 37, .mv (.t 0), (some (36, false)), [0, 36]⟩,
 ⟨some 38, .bin (.int .eql) (.t 37) (.c (.int .i64 8)), (some (36, false)), [37, 36]⟩,
 ⟨some 39, .pick (.t 36) (.c (.bool true)) (.t 38), none, [36, 38]⟩])
 (.cond (.t 39)
 (.seq (.reg [⟨some 40, .build [(.bool false), (.bool false), (.bool false), (.bool false), (.int .i64 0), (.int .i64 0), (.int .i64 0), (.int .i64 0)] [], none, []⟩,
 ⟨none, .st 8 (.t 2) (.t 40), none, [2, 40]⟩,
 ⟨some 3, .mv (.c (.bool false)), none, []⟩])
 (.ret))
 (.skip)))
 (.seq (.reg [⟨some 41, .mv (.t 0), none, [0]⟩,
 ⟨some 42, .iaa 13 8 (.t 4) (.t 41), none, [4, 41]⟩,
 ⟨some 43, .ldn 8 (.t 42), none, [42]⟩,
 ⟨none, .st 8 (.t 2) (.t 43), none, [2, 43]⟩,
 ⟨some 3, .mv (.c (.bool true)), none, []⟩])
 (.ret))))
theorem c119_ctr : CtrOf 119 44 [.cn 2 8, .t 3] c119 := ctrOf Tryz.func119 (by kernel_rfl) (by kernel_rfl) rfl (by kernel_rfl) (by kernel_rfl)
def c120 : RC :=
 .seq (.reg [⟨some 2, .mv (.c (.bool false)), none, []⟩])
 (.seq (.reg [⟨some 3, .mv (.t 0), none, [0]⟩,
 ⟨some 4, .bin (.int .geq) (.t 3) (.c (.int .i64 0)), none, [3]⟩,
 ⟨some 5, .mv (.t 4), none, [4]⟩,
 ⟨some 6, .mv (.t 0), (some (5, true)), [0, 5]⟩,
 ⟨some 7, .bin (.int .leq) (.t 6) (.c (.int .i64 1048575)), (some (5, true)), [6, 5]⟩,
 ⟨some 8, .pick (.t 5) (.t 7) (.c (.bool false)), none, [5, 7]⟩,
 ⟨some 2, .mv (.t 8), none, [8]⟩])
 (.ret))
theorem c120_ctr : CtrOf 120 9 [.t 2] c120 := ctrOf Tryz.func120 (by kernel_rfl) (by kernel_rfl) rfl (by kernel_rfl) (by kernel_rfl)
def c121 : RC :=
 .seq (.reg [⟨some 3, .box (.t 1), none, [1]⟩,
 ⟨some 4, .mv (.c (.bool false)), none, []⟩])
 (.seq (.reg [⟨some 5, .mv (.t 0), none, [0]⟩,
 ⟨some 6, .iaa 2 1 (.t 3) (.c (.int .i64 0)), none, [3]⟩,
 ⟨some 7, .ld1 (.t 6), none, [6]⟩,
 ⟨some 8, .bin (.int .geq) (.t 5) (.t 7), none, [5, 7]⟩,
 ⟨some 9, .mv (.t 8), none, [8]⟩,
 ⟨some 10, .mv (.t 0), (some (9, true)), [0, 9]⟩,
 ⟨some 11, .iaa 2 1 (.t 3) (.c (.int .i64 1)), (some (9, true)), [3, 9]⟩,
 ⟨some 12, .ld1 (.t 11), (some (9, true)), [11, 9]⟩,
 ⟨some 13, .bin (.int .leq) (.t 10) (.t 12), (some (9, true)), [10, 12, 9]⟩,
 ⟨some 14, .pick (.t 9) (.t 13) (.c (.bool false)), none, [9, 13]⟩,
 ⟨some 4, .mv (.t 14), none, [14]⟩])
 (.ret))
theorem c121_ctr : CtrOf 121 15 [.t 4] c121 := ctrOf Tryz.func121 (by kernel_rfl) (by kernel_rfl) rfl (by kernel_rfl) (by kernel_rfl)
def c122 : RC :=
 .seq (.reg [⟨some 0, .mv (.c .nilmap), none, []⟩])
 (.seq (.reg [⟨some 1, .mkm none, none, []⟩,
 ⟨none, .upd .str (.t 1) (.c (.str [97, 100, 100])) (.c (.int .i64 2)), none, [1]⟩,
 ⟨none, .upd .str (.t 1) (.c (.str [115, 117, 98])) (.c (.int .i64 2)), none, [1]⟩,
 ⟨none, .upd .str (.t 1) (.c (.str [109, 117, 108])) (.c (.int .i64 2)), none, [1]⟩,
 ⟨none, .upd .str (.t 1) (.c (.str [100, 105, 118])) (.c (.int .i64 2)), none, [1]⟩,
 ⟨none, .upd .str (.t 1) (.c (.str [109, 111, 100])) (.c (.int .i64 2)), none, [1]⟩,
 ⟨none, .upd .str (.t 1) (.c (.str [101, 113])) (.c (.int .i64 2)), none, [1]⟩,
 ⟨none, .upd .str (.t 1) (.c (.str [108, 116])) (.c (.int .i64 2)), none, [1]⟩,
 ⟨none, .upd .str (.t 1) (.c (.str [108, 101])) (.c (.int .i64 2)), none, [1]⟩,
 ⟨none, .upd .str (.t 1) (.c (.str [98, 121, 116, 101])) (.c (.int .i64 2)), none, [1]⟩,
 ⟨none, .upd .str (.t 1) (.c (.str [106, 111, 105, 110])) (.c (.int .i64 2)), none, [1]⟩,
 ⟨none, .upd .str (.t 1) (.c (.str [115, 101, 116])) (.c (.int .i64 2)), none, [1]⟩,
 ⟨none, .upd .str (.t 1) (.c (.str [110, 101, 103])) (.c (.int .i64 1)), none, [1]⟩,
 ⟨none, .upd .str (.t 1) (.c (.str [103, 101, 116, 99])) (.c (.int .i64 1)), none, [1]⟩,
 ⟨none, .upd .str (.t 1) (.c (.str [112, 117, 116, 99])) (.c (.int .i64 1)), none, [1]⟩,
 ⟨none, .upd .str (.t 1) (.c (.str [112, 117, 116, 115])) (.c (.int .i64 1)), none, [1]⟩,
 ⟨none, .upd .str (.t 1) (.c (.str [115, 105, 122, 101])) (.c (.int .i64 1)), none, [1]⟩,
 ⟨none, .upd .str (.t 1) (.c (.str [99, 104, 114])) (.c (.int .i64 1)), none, [1]⟩,
 ⟨none, .upd .str (.t 1) (.c (.str [99, 117, 116])) (.c (.int .i64 3)), none, [1]⟩,
 ⟨some 2, .mv (.t 1), none, [1]⟩,
 ⟨some 0, .mv (.t 2), none, [2]⟩])
 (.ret))
theorem c122_ctr : CtrOf 122 3 [.t 0] c122 := ctrOf Tryz.func122 (by kernel_rfl) (by kernel_rfl) rfl (by kernel_rfl) (by kernel_rfl)
def c123l1 : RC :=
 .seq (.reg [⟨some 12, .bin (.int .lss) (.t 11) (.t 10), none, [11, 10]⟩])
 (.seq (.cond (.t 12)
 (.skip)
 (.exit 0))
 (.seq (.block 1 (.seq (.reg [⟨some 13, .ia 1 (.t 9) (.t 11), none, [9, 11]⟩,
 ⟨some 14, .ld1 (.t 13), none, [13]⟩,
 ⟨some 5, .mv (.t 14), none, [14]⟩])
 (.seq (.reg [⟨some 15, .mv (.t 5), none, [5]⟩,
 ⟨some 16, .call 120 [(.t 15)], none, [15]⟩,
 ⟨some 6, .mv (.t 16), none, [16]⟩])
 (.seq (.seq (.reg [⟨some 17, .fa 0 (.t 1), none, [1]⟩,
 ⟨some 18, .ld1 (.t 17), none, [17]⟩,
 ⟨some 19, .bin (.int .eql) (.t 18) (.c (.int .i64 10)), none, [18]⟩])
 (.cond (.t 19)
 (.reg [⟨some 20, .mv (.t 5), none, [5]⟩,
 ⟨some 21, .bin (.int .geq) (.t 20) (.c (.int .i64 (-1073741824))), none, [20]⟩,
 ⟨some 22, .mv (.t 21), none, [21]⟩,
 ⟨some 23, .mv (.t 5), (some (22, true)), [5, 22]⟩,
 ⟨some 24, .bin (.int .leq) (.t 23) (.c (.int .i64 1073741823)), (some (22, true)), [23, 22]⟩,
 ⟨some 25, .pick (.t 22) (.t 24) (.c (.bool false)), none, [22, 24]⟩,
 ⟨some 6, .mv (.t 25), none, [25]⟩])
 (.skip)))
 (.seq (.seq (.reg [⟨some 26, .mv (.t 6), none, [6]⟩,
 ⟨some 27, .un .not (.t 26), none, [26]⟩,
 ⟨some 28, .mv (.t 27), none, [27]⟩,
 ⟨some 29, .mv (.t 3), (some (28, false)), [3, 28]⟩,
 ⟨some 30, .mv (.t 5), (some (28, false)), [5, 28]⟩,
 ⟨some 31, .look .int (.bool false) false (.t 29) (.t 30), (some (28, false)), [29, 30, 28]⟩,
 ⟨some 32, .pick (.t 28) (.c (.bool true)) (.t 31), none, [28, 31]⟩])
 (.cond (.t 32)
 (.seq (.reg [⟨some 2, .mv (.c (.bool false)), none, []⟩])
 (.ret))
 (.skip)))
 (.reg [⟨some 33, .mv (.t 3), none, [3]⟩,
 ⟨some 34, .mv (.t 5), none, [5]⟩,
 ⟨none, .upd .int (.t 33) (.t 34) (.c (.bool true)), none, [33, 34]⟩]))))))
 (.reg [⟨some 35, .bin (.int .add) (.t 11) (.c (.int .i64 1)), none, [11]⟩,
 ⟨some 11, .mv (.t 35), none, [35]⟩])))
def c123 : RC :=
 .seq (.reg [⟨some 1, .box (.t 0), none, [0]⟩,
 ⟨some 2, .mv (.c (.bool false)), none, []⟩])
 (.seq (.reg [⟨some 7, .mkm none, none, []⟩,
 ⟨some 3, .mv (.t 7), none, [7]⟩])
 (.seq (.seq (.reg [⟨some 8, .fa 5 (.t 1), none, [1]⟩,
 ⟨some 9, .ld1 (.t 8), none, [8]⟩,
 ⟨some 10, .len .slice (.t 9), none, [9]⟩,
 ⟨some 11, .mv (.c (.int .i64 0)), none, []⟩])
 (.block 0 (.loop c123l1)))
 (.seq (.reg [⟨some 36, .fa 6 (.t 1), none, [1]⟩,
 ⟨some 37, .ld1 (.t 36), none, [36]⟩,
 ⟨some 38, .len .slice (.t 37), none, [37]⟩,
 ⟨some 39, .fa 5 (.t 1), none, [1]⟩,
 ⟨some 40, .ld1 (.t 39), none, [39]⟩,
 ⟨some 41, .len .slice (.t 40), none, [40]⟩,
 ⟨some 42, .bin (.int .eql) (.t 38) (.t 41), none, [38, 41]⟩,
 ⟨some 43, .mv (.t 42), none, [42]⟩,
 ⟨some 44, .fa 6 (.t 1), (some (43, false)), [1, 43]⟩,
 ⟨some 45, .ld1 (.t 44), (some (43, false)), [44, 43]⟩,
 ⟨some 46, .len .slice (.t 45), (some (43, false)), [45, 43]⟩,
 ⟨some 47, .fa 5 (.t 1), (some (43, false)), [1, 43]⟩,
 ⟨some 48, .ld1 (.t 47), (some (43, false)), [47, 43]⟩,
 ⟨some 49, .len .slice (.t 48), (some (43, false)), [48, 43]⟩,
 ⟨some 50, .bin (.int .add) (.t 49) (.c (.int .i64 1)), (some (43, false)), [49, 43]⟩,
 ⟨some 51, .bin (.int .eql) (.t 46) (.t 50), (some (43, false)), [46, 50, 43]⟩,
 ⟨some 52, .pick (.t 43) (.c (.bool true)) (.t 51), none, [43, 51]⟩,
 ⟨some 2, .mv (.t 52), none, [52]⟩])
 (.ret))))
theorem c123_ctr : CtrOf 123 53 [.t 2] c123 := ctrOf Tryz.func123 (by kernel_rfl) (by kernel_rfl) rfl (by kernel_rfl) (by kernel_rfl)
def c124 : RC :=
 .seq (.reg [⟨some 4, .mv (.c (.bool false)), none, []⟩])
 (.seq (.reg [⟨some 5, .mv (.t 0), none, [0]⟩,
 ⟨some 6, .mv (.t 1), none, [1]⟩,
 ⟨some 7, .call 160 [(.t 5), (.t 6)], none, [5, 6]⟩,
 ⟨some 8, .bin (.int .geq) (.t 7) (.c (.int .i64 0)), none, [7]⟩,
 ⟨some 4, .mv (.t 8), none, [8]⟩])
 (.ret))
theorem c124_ctr : CtrOf 124 9 [.t 4] c124 := ctrOf Tryz.func124 (by kernel_rfl) (by kernel_rfl) rfl (by kernel_rfl) (by kernel_rfl)
def c125 : RC :=
 .seq (.reg [⟨some 1, .box (.t 0), none, [0]⟩,
 ⟨some 2, .mv (.c (.bool false)), none, []⟩])
 (.seq (.reg [⟨some 3, .ldn 3 (.t 1), none, [1]⟩,
 ⟨some 4, .call 126 [(.t 3)], none, [3]⟩,
 ⟨some 5, .un .not (.t 4), none, [4]⟩,
 ⟨some 2, .mv (.t 5), none, [5]⟩])
 (.ret))
theorem c125_ctr : CtrOf 125 6 [.t 2] c125 := ctrOf Tryz.func125 (by kernel_rfl) (by kernel_rfl) rfl (by kernel_rfl) (by kernel_rfl)
def c126 : RC :=
 .seq (.reg [⟨some 1, .box (.t 0), none, [0]⟩,
 ⟨some 2, .mv (.c (.bool false)), none, []⟩])
 (.seq (.seq (.reg [⟨some 3, .fa 0 (.t 1), none, [1]⟩,
 ⟨some 4, .ld1 (.t 3), none, [3]⟩])
 (.block 0 (.seq (.reg [⟨some 6, .bin (.int .eql) (.t 4) (.c (.int .i64 1)), none, [4]⟩,
 ⟨some 5, .mv (.t 6), none, [6]⟩])
 (.cond (.t 5)
 (.seq (.reg [⟨some 7, .fa 1 (.t 1), none, [1]⟩,
 ⟨some 8, .ld1 (.t 7), none, [7]⟩,
 ⟨some 9, .bin (.int .geq) (.t 8) (.c (.int .i64 0)), none, [8]⟩,
 ⟨some 10, .mv (.t 9), none, [9]⟩,
 ⟨some 11, .fa 1 (.t 1), (some (10, true)), [1, 10]⟩,
 ⟨some 12, .ld1 (.t 11), (some (10, true)), [11, 10]⟩,
 ⟨some 13, .bin (.int .leq) (.t 12) (.c (.int .i64 1048575)), (some (10, true)), [12, 10]⟩,
 ⟨some 14, .pick (.t 10) (.t 13) (.c (.bool false)), none, [10, 13]⟩,
 ⟨some 15, .mv (.t 14), none, [14]⟩,
 ⟨some 16, .fa 2 (.t 1), (some (15, true)), [1, 15]⟩,
 ⟨some 17, .ld1 (.t 16), (some (15, true)), [16, 15]⟩,
 ⟨some 18, .bin (.str .eql) (.t 17) (.c (.str [])), (some (15, true)), [17, 15]⟩,
 ⟨some 19, .pick (.t 15) (.t 18) (.c (.bool false)), none, [15, 18]⟩,
 ⟨some 2, .mv (.t 19), none, [19]⟩])
 (.ret))
 (.seq (.reg [⟨some 21, .bin (.int .eql) (.t 4) (.c (.int .i64 2)), none, [4]⟩,
 ⟨some 20, .mv (.t 21), none, [21]⟩])
 (.cond (.t 20)
 (.seq (.reg [⟨some 22, .fa 1 (.t 1), none, [1]⟩,
 ⟨some 23, .ld1 (.t 22), none, [22]⟩,
 ⟨some 24, .bin (.int .geq) (.t 23) (.c (.int .i64 (-1073741824))), none, [23]⟩,
 ⟨some 25, .mv (.t 24), none, [24]⟩,
 ⟨some 26, .fa 1 (.t 1), (some (25, true)), [1, 25]⟩,
 ⟨some 27, .ld1 (.t 26), (some (25, true)), [26, 25]⟩,
 ⟨some 28, .bin (.int .leq) (.t 27) (.c (.int .i64 1073741823)), (some (25, true)), [27, 25]⟩,
 ⟨some 29, .pick (.t 25) (.t 28) (.c (.bool false)), none, [25, 28]⟩,
 ⟨some 30, .mv (.t 29), none, [29]⟩,
 ⟨some 31, .fa 2 (.t 1), (some (30, true)), [1, 30]⟩,
 ⟨some 32, .ld1 (.t 31), (some (30, true)), [31, 30]⟩,
 ⟨some 33, .bin (.str .eql) (.t 32) (.c (.str [])), (some (30, true)), [32, 30]⟩,
 ⟨some 34, .pick (.t 30) (.t 33) (.c (.bool false)), none, [30, 33]⟩,
 ⟨some 2, .mv (.t 34), none, [34]⟩])
 (.ret))
 (.seq (.reg [⟨some 36, .bin (.int .eql) (.t 4) (.c (.int .i64 3)), none, [4]⟩,
 ⟨some 35, .mv (.t 36), none, [36]⟩])
 (.cond (.t 35)
 (.seq (.reg [⟨some 37, .fa 1 (.t 1), none, [1]⟩,
 ⟨some 38, .ld1 (.t 37), none, [37]⟩,
 ⟨some 39, .bin (.int .eql) (.t 38) (.c (.int .i64 0)), none, [38]⟩,
 ⟨some 40, .mv (.t 39), none, [39]⟩,
 ⟨some 41, .fa 2 (.t 1), (some (40, true)), [1, 40]⟩,
 ⟨some 42, .ld1 (.t 41), (some (40, true)), [41, 40]⟩,
 ⟨some 43, .len .str (.t 42), (some (40, true)), [42, 40]⟩,
 ⟨some 44, .bin (.int .leq) (.t 43) (.c (.int .i64 4096)), (some (40, true)), [43, 40]⟩,
 ⟨some 45, .pick (.t 40) (.t 44) (.c (.bool false)), none, [40, 44]⟩,
 ⟨some 2, .mv (.t 45), none, [45]⟩])
 (.ret))
 (.skip)))))))))
 (.seq (.reg [⟨some 2, .mv (.c (.bool false)), none, []⟩])
 (.ret)))
theorem c126_ctr : CtrOf 126 46 [.t 2] c126 := ctrOf Tryz.func126 (by kernel_rfl) (by kernel_rfl) rfl (by kernel_rfl) (by kernel_rfl)
def c127l1 : RC :=
 .seq (.reg [⟨some 9, .bin (.int .lss) (.t 8) (.t 7), none, [8, 7]⟩])
 (.seq (.cond (.t 9)
 (.skip)
 (.exit 0))
 (.seq (.block 1 (.seq (.reg [⟨some 10, .mv (.t 8), none, [8]⟩,
 ⟨some 5, .mv (.t 10), none, [10]⟩])
 (.seq (.reg [⟨some 11, .mv (.t 1), none, [1]⟩,
 ⟨some 12, .mv (.t 0), none, [0]⟩,
 ⟨some 13, .mv (.t 5), none, [5]⟩,
 ⟨some 14, .ia 7 (.t 12) (.t 13), none, [12, 13]⟩,
 ⟨some 15, .ldn 7 (.t 14), none, [14]⟩,
 ⟨some 16, .callv (.t 11) [(.t 15)], none, [11, 15]⟩])
 (.cond (.t 16)
 (.seq (.reg [⟨some 17, .mv (.t 5), none, [5]⟩,
 ⟨some 4, .mv (.t 17), none, [17]⟩])
 (.ret))
 (.skip)))))
 (.reg [⟨some 18, .bin (.int .add) (.t 8) (.c (.int .i64 1)), none, [8]⟩,
 ⟨some 8, .mv (.t 18), none, [18]⟩])))
def c127 : RC :=
 .seq (.reg [⟨some 4, .mv (.c (.int .i64 0)), none, []⟩])
 (.seq (.seq (.reg [⟨some 6, .mv (.t 0), none, [0]⟩,
 ⟨some 7, .len .slice (.t 6), none, [6]⟩,
 ⟨some 8, .mv (.c (.int .i64 0)), none, []⟩])
 (.block 0 (.loop c127l1)))
 (.seq (.reg [⟨some 4, .mv (.c (.int .i64 (-1))), none, []⟩])
 (.ret)))
theorem c127_ctr : CtrOf 127 19 [.t 4] c127 := ctrOf Tryz.func127 (by kernel_rfl) (by kernel_rfl) rfl (by kernel_rfl) (by kernel_rfl)
def c160l1 : RC :=
 .seq (.reg [⟨some 9, .bin (.int .lss) (.t 8) (.t 7), none, [8, 7]⟩])
 (.seq (.cond (.t 9)
 (.skip)
 (.exit 0))
 (.seq (.block 1 (.seq (.reg [⟨some 10, .mv (.t 8), none, [8]⟩,
 ⟨some 5, .mv (.t 10), none, [10]⟩])
 (.seq (.reg [⟨some 11, .mv (.t 1), none, [1]⟩,
 ⟨some 12, .mv (.t 0), none, [0]⟩,
 ⟨some 13, .mv (.t 5), none, [5]⟩,
 ⟨some 14, .ia 3 (.t 12) (.t 13), none, [12, 13]⟩,
 ⟨some 15, .ldn 3 (.t 14), none, [14]⟩,
 ⟨some 16, .callv (.t 11) [(.t 15)], none, [11, 15]⟩])
 (.cond (.t 16)
 (.seq (.reg [⟨some 17, .mv (.t 5), none, [5]⟩,
 ⟨some 4, .mv (.t 17), none, [17]⟩])
 (.ret))
 (.skip)))))
 (.reg [⟨some 18, .bin (.int .add) (.t 8) (.c (.int .i64 1)), none, [8]⟩,
 ⟨some 8, .mv (.t 18), none, [18]⟩])))
def c160 : RC :=
 .seq (.reg [⟨some 4, .mv (.c (.int .i64 0)), none, []⟩])
 (.seq (.seq (.reg [⟨some 6, .mv (.t 0), none, [0]⟩,
 ⟨some 7, .len .slice (.t 6), none, [6]⟩,
 ⟨some 8, .mv (.c (.int .i64 0)), none, []⟩])
 (.block 0 (.loop c160l1)))
 (.seq (.reg [⟨some 4, .mv (.c (.int .i64 (-1))), none, []⟩])
 (.ret)))
theorem c160_ctr : CtrOf 160 19 [.t 4] c160 := ctrOf Tryz.func160 (by kernel_rfl) (by kernel_rfl) rfl (by kernel_rfl) (by kernel_rfl)
end Go.Proofs.YtjbiefneffiogaaGreat

namespace Go.Proofs.YtjbiefneffiogaaGreat
open Go Am
def c5 : RC :=
 .seq (.reg [⟨some 1, .box (.t 0), none, [0]⟩,
 ⟨some 2, .mv (.c (.bool false)), none, []⟩])
 (.seq (.seq (.reg [⟨some 5, .ldn 7 (.t 1), none, [1]⟩,
 ⟨some 6, .call 10 [(.t 5), (.c (.int .i64 400))], none, [5]⟩])
 (.cond (.t 6)
 (.seq (.reg [⟨some 7, .call 11 [], none, []⟩,
 ⟨some 2, .mv (.t 7), none, [7]⟩])
 (.ret))
 (.skip)))
 (.seq (.reg [⟨some 8, .ldn 7 (.t 1), none, [1]⟩,
 ⟨some 9, .call 12 [(.t 8)], none, [8]⟩,
 ⟨some 3, .new [(.int .i64 0), (.int .i64 0), (.int .i64 0), (.str []), .nilslice, .nilslice, .nilslice], none, []⟩,
 ⟨none, .st 7 (.t 3) (.t 9), none, [3, 9]⟩])
 (.seq (.draw [⟨some 10, .ldn 7 (.t 3), none, [3]⟩,
 ⟨some 12, .ldn 7 (.t 1), none, [1]⟩,
 ⟨some 11, .call 20 [(.t 10)], none, [10]⟩,
 ⟨some 13, .call 21 [(.t 12)], none, [12]⟩,
 ⟨some 14, .bin (.int .eql) (.t 11) (.t 13), none, [11, 13]⟩,
 ⟨some 15, .mv (.t 14), none, [14]⟩,
 ⟨some 16, .ldn 7 (.t 3), (some (15, true)), [3, 15]⟩,
 ⟨some 18, .ldn 7 (.t 1), (some (15, true)), [1, 15]⟩,
 ⟨some 17, .call 22 [(.t 16)], (some (15, true)), [16, 15]⟩,
 ⟨some 19, .call 23 [(.t 18)], (some (15, true)), [18, 15]⟩,
 ⟨some 20, .bin (.int .eql) (.t 17) (.t 19), (some (15, true)), [17, 19, 15]⟩,
 ⟨some 21, .pick (.t 15) (.t 20) (.c (.bool false)), none, [15, 20]⟩,
 ⟨some 4, .mv (.t 21), none, [21]⟩] [(0, [2]), (1, [2, 3]), (6, [8]), (7, [8, 9])])
 (.seq (.draw [⟨some 22, .mv (.t 4), none, [4]⟩,
 ⟨some 23, .mv (.t 22), none, [22]⟩,
 ⟨some 24, .ldn 7 (.t 3), (some (23, true)), [3, 23]⟩,
 ⟨some 26, .ldn 7 (.t 1), (some (23, true)), [1, 23]⟩,
 ⟨some 25, .call 25 [(.t 24)], (some (23, true)), [24, 23]⟩,
 ⟨some 27, .call 26 [(.t 26)], (some (23, true)), [26, 23]⟩,
 ⟨some 28, .call 24 [(.t 25), (.t 27)], (some (23, true)), [25, 27, 23]⟩,
 ⟨some 29, .pick (.t 23) (.t 28) (.c (.bool false)), none, [23, 28]⟩,
 ⟨some 30, .mv (.t 29), none, [29]⟩,
 ⟨some 31, .ldn 7 (.t 3), (some (30, true)), [3, 30]⟩,
 ⟨some 33, .ldn 7 (.t 1), (some (30, true)), [1, 30]⟩,
 ⟨some 32, .call 27 [(.t 31)], (some (30, true)), [31, 30]⟩,
 ⟨some 34, .call 28 [(.t 33)], (some (30, true)), [33, 30]⟩,
 ⟨some 35, .call 24 [(.t 32), (.t 34)], (some (30, true)), [32, 34, 30]⟩,
 ⟨some 36, .pick (.t 30) (.t 35) (.c (.bool false)), none, [30, 35]⟩,
 ⟨some 4, .mv (.t 36), none, [36]⟩] [(2, [4]), (3, [4, 5]), (9, [11]), (10, [11, 12])])
 (.seq (.reg [⟨some 37, .mv (.t 4), none, [4]⟩,
 ⟨some 38, .mv (.t 37), none, [37]⟩,
 ⟨some 39, .ldn 7 (.t 3), (some (38, true)), [3, 38]⟩,
 ⟨some 40, .ldn 7 (.t 1), (some (38, true)), [1, 38]⟩,
 ⟨some 41, .call 16 [(.t 39), (.t 40)], (some (38, true)), [39, 40, 38]⟩,
 ⟨some 42, .pick (.t 38) (.t 41) (.c (.bool false)), none, [38, 41]⟩,
 ⟨some 43, .mv (.t 42), none, [42]⟩,
 ⟨some 44, .call 11 [], (some (43, true)), [43]⟩,
 ⟨some 45, .pick (.t 43) (.t 44) (.c (.bool false)), none, [43, 44]⟩,
 ⟨some 2, .mv (.t 45), none, [45]⟩])
 (.ret))))))
def c10 : RC :=
 .seq (.reg [⟨some 2, .box (.t 0), none, [0]⟩,
 ⟨some 4, .mv (.c (.bool false)), none, []⟩])
 (.seq (.reg [⟨some 5, .ldn 7 (.t 2), none, [2]⟩,
 ⟨some 6, .mv (.t 1), none, [1]⟩,
 ⟨some 7, .call 39 [(.t 5), (.t 6)], none, [5, 6]⟩,
 ⟨some 8, .mv (.t 1), none, [1]⟩,
 ⟨some 9, .bin (.int .gtr) (.t 7) (.t 8), none, [7, 8]⟩,
 ⟨some 4, .mv (.t 9), none, [9]⟩])
 (.ret))
theorem c10_ctr : CtrOf 10 10 [.t 4] c10 := ctrOf Tryz.func10 (by kernel_rfl) (by kernel_rfl) rfl (by kernel_rfl) (by kernel_rfl)
def c39l1 : RC :=
 .seq (.seq (.reg [⟨some 21, .mv (.t 6), none, [6]⟩,
 ⟨some 22, .fa 4 (.t 2), none, [2]⟩,
 ⟨some 23, .ld1 (.t 22), none, [22]⟩,
 ⟨some 24, .len .slice (.t 23), none, [23]⟩,
 ⟨some 25, .bin (.int .lss) (.t 21) (.t 24), none, [21, 24]⟩])
 (.cond (.t 25)
 (.skip)
 (.exit 0)))
 (.seq (.block 1 (.reg [⟨some 28, .mv (.t 5), none, [5]⟩,
 ⟨some 29, .fa 4 (.t 2), none, [2]⟩,
 ⟨some 30, .ld1 (.t 29), none, [29]⟩,
 ⟨some 31, .mv (.t 6), none, [6]⟩,
 ⟨some 32, .ia 3 (.t 30) (.t 31), none, [30, 31]⟩,
 ⟨some 33, .fa 2 (.t 32), none, [32]⟩,
 ⟨some 34, .ld1 (.t 33), none, [33]⟩,
 ⟨some 35, .len .str (.t 34), none, [34]⟩,
 ⟨some 36, .bin (.int .quo) (.t 35) (.c (.int .i64 100)), none, [35]⟩,
 ⟨some 37, .bin (.int .add) (.t 28) (.t 36), none, [28, 36]⟩,
 ⟨some 5, .mv (.t 37), none, [37]⟩]))
 (.reg [⟨some 26, .mv (.t 6), none, [6]⟩,
 ⟨some 27, .bin (.int .add) (.t 26) (.c (.int .i64 1)), none, [26]⟩,
 ⟨some 6, .mv (.t 27), none, [27]⟩]))
def c39l2 : RC :=
 .seq (.seq (.reg [⟨some 38, .mv (.t 7), none, [7]⟩,
 ⟨some 39, .fa 6 (.t 2), none, [2]⟩,
 ⟨some 40, .ld1 (.t 39), none, [39]⟩,
 ⟨some 41, .len .slice (.t 40), none, [40]⟩,
 ⟨some 42, .bin (.int .lss) (.t 38) (.t 41), none, [38, 41]⟩,
 ⟨some 43, .mv (.t 42), none, [42]⟩,
 ⟨some 44, .mv (.t 5), (some (43, true)), [5, 43]⟩,
 ⟨some 45, .mv (.t 1), (some (43, true)), [1, 43]⟩,
 ⟨some 46, .bin (.int .leq) (.t 44) (.t 45), (some (43, true)), [44, 45, 43]⟩,
 ⟨some 47, .pick (.t 43) (.t 46) (.c (.bool false)), none, [43, 46]⟩])
 (.cond (.t 47)
 (.skip)
 (.exit 2)))
 (.seq (.block 3 (.reg [⟨some 50, .mv (.t 5), none, [5]⟩,
 ⟨some 51, .fa 6 (.t 2), none, [2]⟩,
 ⟨some 52, .ld1 (.t 51), none, [51]⟩,
 ⟨some 53, .mv (.t 7), none, [7]⟩,
 ⟨some 54, .ia 7 (.t 52) (.t 53), none, [52, 53]⟩,
 ⟨some 55, .ldn 7 (.t 54), none, [54]⟩,
 ⟨some 56, .mv (.t 1), none, [1]⟩,
 ⟨some 57, .mv (.t 5), none, [5]⟩,
 ⟨some 58, .bin (.int .sub) (.t 56) (.t 57), none, [56, 57]⟩,
 ⟨some 59, .call 39 [(.t 55), (.t 58)], none, [55, 58]⟩,
 ⟨some 60, .bin (.int .add) (.t 50) (.t 59), none, [50, 59]⟩,
 ⟨some 5, .mv (.t 60), none, [60]⟩]))
 (.reg [⟨some 48, .mv (.t 7), none, [7]⟩,
 ⟨some 49, .bin (.int .add) (.t 48) (.c (.int .i64 1)), none, [48]⟩,
 ⟨some 7, .mv (.t 49), none, [49]⟩]))
def c39 : RC :=
 .seq (.reg [⟨some 2, .box (.t 0), none, [0]⟩,
 ⟨some 4, .mv (.c (.int .i64 0)), none, []⟩])
 (.seq (.reg [⟨some 8, .fa 4 (.t 2), none, [2]⟩,
 ⟨some 9, .ld1 (.t 8), none, [8]⟩,
 ⟨some 10, .len .slice (.t 9), none, [9]⟩,
 ⟨some 11, .bin (.int .add) (.c (.int .i64 1)) (.t 10), none, [10]⟩,
 ⟨some 12, .fa 5 (.t 2), none, [2]⟩,
 ⟨some 13, .ld1 (.t 12), none, [12]⟩,
 ⟨some 14, .len .slice (.t 13), none, [13]⟩,
 ⟨some 15, .bin (.int .add) (.t 11) (.t 14), none, [11, 14]⟩,
 ⟨some 16, .fa 3 (.t 2), none, [2]⟩,
 ⟨some 17, .ld1 (.t 16), none, [16]⟩,
 ⟨some 18, .len .str (.t 17), none, [17]⟩,
 ⟨some 19, .bin (.int .quo) (.t 18) (.c (.int .i64 100)), none, [18]⟩,
 ⟨some 20, .bin (.int .add) (.t 15) (.t 19), none, [15, 19]⟩,
 ⟨some 5, .mv (.t 20), none, [20]⟩])
 (.seq (.seq (.reg [⟨some 6, .mv (.c (.int .i64 0)), none, []⟩])
 (.block 0 (.loop c39l1)))
 (.seq (.seq (.reg [⟨some 7, .mv (.c (.int .i64 0)), none, []⟩])
 (.block 2 (.loop c39l2)))
 (.seq (.reg [⟨some 61, .mv (.t 5), none, [5]⟩,
 ⟨some 4, .mv (.t 61), none, [61]⟩])
 (.ret)))))
theorem c39_ctr : CtrOf 39 62 [.t 4] c39 := ctrOf Tryz.func39 (by kernel_rfl) (by kernel_rfl) rfl (by kernel_rfl) (by kernel_rfl)
end Go.Proofs.YtjbiefneffiogaaGreat
