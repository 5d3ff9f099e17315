/- The chapter's functions, walked by the abstract machine: plain lemmas, no condition. -/
import Derived.Test.YtjbiefneffiogaaGreatM6
import Derived.Test.YtjbiefneffiogaaGreatRows
import Derived.Test.YtjbiefneffiogaaGreatM4
import Derived.Shelf.SortM.Plain
import Derived.Shelf.SortM.SortNone
import Derived.Shelf.SlIterI.Nil
set_option linter.unusedSectionVars false
set_option linter.unusedSimpArgs false
set_option linter.unusedVariables false

namespace Go.Proofs.YtjbiefneffiogaaGreat
open Go Go.Shelf
def Tryz.keysA_ren : Go.Shelf.Ren := ⟨fun | 7 => 68 | 10 => 129 | n => n, fun | 23 => 88 | 26 => 3 | 3 => 4 | 28 => 91 | 0 => 0 | 27 => 90 | 33 => 136 | 4 => 4 | n => n, fun | n => n⟩
theorem Tryz.keysA : Go.Proofs.SlLaysZI.n7 Tryz.prog Tryz.keysA_ren where
  mixed := by kernel_rfl
  f7 := ⟨"maps.Keys[map[int]bool,int,bool]", by decide, Tryz.func68.trans (congrArg some (by kernel_rfl))⟩
  f10 := ⟨"maps.Keys[map[int]bool,int,bool]$1", by decide, Tryz.func129.trans (congrArg some (by kernel_rfl))⟩
  t0 := Tryz.underlying0
  a0 := Tryz.isAgg0
  z0 := Tryz.sizeOf0
  v0 := Tryz.zeroValue0
  t4 := Tryz.underlying4
  a4 := Tryz.isAgg4
  z4 := Tryz.sizeOf4
  v4 := Tryz.zeroValue4
  t23 := Tryz.underlying88
  a23 := Tryz.isAgg88
  z23 := Tryz.sizeOf88
  v23 := Tryz.zeroValue88
  t26 := Tryz.underlying3
  a26 := Tryz.isAgg3
  z26 := Tryz.sizeOf3
  v26 := Tryz.zeroValue3
  t27 := Tryz.underlying90
  a27 := Tryz.isAgg90
  z27 := Tryz.sizeOf90
  v27 := Tryz.zeroValue90
  t28 := Tryz.underlying91
  a28 := Tryz.isAgg91
  z28 := Tryz.sizeOf91
  v28 := Tryz.zeroValue91
  t33 := Tryz.underlying136
  a33 := Tryz.isAgg136
  z33 := Tryz.sizeOf136
  v33 := Tryz.zeroValue136
def Tryz.sortedA_ren : Go.Shelf.Ren := ⟨fun | 6 => 67 | 8 => 128 | 9 => 51 | 11 => 161 | 13 => 73 | 12 => 72 | 23 => 143 | 24 => 144 | 14 => 134 | 15 => 135 | 16 => 136 | 17 => 137 | 18 => 138 | 19 => 139 | 20 => 140 | 21 => 141 | 22 => 142 | 25 => 164 | 26 => 165 | 27 => 166 | 28 => 167 | 29 => 168 | 30 => 169 | 31 => 171 | n => n, fun | 26 => 3 | 28 => 91 | 24 => 23 | 0 => 0 | 3 => 3 | 37 => 96 | 48 => 156 | 50 => 158 | 4 => 4 | 40 => 148 | 39 => 147 | 45 => 153 | 5 => 5 | 9 => 9 | 51 => 178 | 55 => 182 | 57 => 187 | 58 => 188 | 33 => 136 | n => n, fun | n => n⟩
theorem Tryz.sortedA : Go.Proofs.SlLaysZI.n6 Tryz.prog Tryz.sortedA_ren where
  mixed := by kernel_rfl
  f6 := ⟨"slices.Sorted[int]", by decide, Tryz.func67.trans (congrArg some (by kernel_rfl))⟩
  f8 := ⟨"slices.Collect[int]", by decide, Tryz.func128.trans (congrArg some (by kernel_rfl))⟩
  f11 := ⟨"slices.AppendSeq[[]int,int]", by decide, Tryz.func161.trans (congrArg some (by kernel_rfl))⟩
  t0 := Tryz.underlying0
  a0 := Tryz.isAgg0
  z0 := Tryz.sizeOf0
  v0 := Tryz.zeroValue0
  t24 := Tryz.underlying23
  a24 := Tryz.isAgg23
  z24 := Tryz.sizeOf23
  v24 := Tryz.zeroValue23
  t26 := Tryz.underlying3
  a26 := Tryz.isAgg3
  z26 := Tryz.sizeOf3
  v26 := Tryz.zeroValue3
  t28 := Tryz.underlying91
  a28 := Tryz.isAgg91
  z28 := Tryz.sizeOf91
  v28 := Tryz.zeroValue91
  i26 := by kernel_rfl
def Tryz.sortA_ren : Go.Shelf.Ren := ⟨fun | 5 => 51 | 8 => 73 | 7 => 72 | 19 => 143 | 20 => 144 | 10 => 134 | 11 => 135 | 12 => 136 | 13 => 137 | 14 => 138 | 15 => 139 | 16 => 140 | 17 => 141 | 18 => 142 | 30 => 164 | 31 => 165 | 32 => 166 | 33 => 167 | 34 => 168 | 35 => 169 | 40 => 171 | n => n, fun | 23 => 23 | 25 => 3 | 3 => 3 | 32 => 96 | 22 => 23 | 0 => 0 | 44 => 156 | 46 => 158 | 4 => 4 | 36 => 148 | 35 => 147 | 41 => 153 | 5 => 5 | 9 => 9 | 53 => 178 | 57 => 182 | 63 => 187 | 64 => 188 | n => n, fun | n => n⟩
theorem Tryz.sortA : Go.Proofs.SlLaysM.n5 Tryz.prog Tryz.sortA_ren where
  mixed := by kernel_rfl
  f5 := ⟨"slices.Sort[[]int,int]", by decide, Tryz.func51.trans (congrArg some (by kernel_rfl))⟩
  f7 := ⟨"slices.pdqsortOrdered[int]", by decide, Tryz.func72.trans (congrArg some (by kernel_rfl))⟩
  f8 := Tryz.func73.trans (congrArg some (by kernel_rfl))
  f10 := ⟨"slices.insertionSortOrdered[int]", by decide, Tryz.func134.trans (congrArg some (by kernel_rfl))⟩
  f11 := ⟨"slices.heapSortOrdered[int]", by decide, Tryz.func135.trans (congrArg some (by kernel_rfl))⟩
  f12 := ⟨"slices.breakPatternsOrdered[int]", by decide, Tryz.func136.trans (congrArg some (by kernel_rfl))⟩
  f13 := ⟨"slices.choosePivotOrdered[int]", by decide, Tryz.func137.trans (congrArg some (by kernel_rfl))⟩
  f14 := ⟨"slices.reverseRangeOrdered[int]", by decide, Tryz.func138.trans (congrArg some (by kernel_rfl))⟩
  f15 := ⟨"slices.partialInsertionSortOrdered[int]", by decide, Tryz.func139.trans (congrArg some (by kernel_rfl))⟩
  f16 := ⟨"cmp.Less[int]", by decide, Tryz.func140.trans (congrArg some (by kernel_rfl))⟩
  f17 := ⟨"slices.partitionEqualOrdered[int]", by decide, Tryz.func141.trans (congrArg some (by kernel_rfl))⟩
  f18 := ⟨"slices.partitionOrdered[int]", by decide, Tryz.func142.trans (congrArg some (by kernel_rfl))⟩
  f19 := Tryz.func143.trans (congrArg some (by kernel_rfl))
  f20 := Tryz.func144.trans (congrArg some (by kernel_rfl))
  f30 := ⟨"slices.siftDownOrdered[int]", by decide, Tryz.func164.trans (congrArg some (by kernel_rfl))⟩
  f31 := Tryz.func165.trans (congrArg some (by kernel_rfl))
  f32 := Tryz.func166.trans (congrArg some (by kernel_rfl))
  f33 := ⟨"slices.medianAdjacentOrdered[int]", by decide, Tryz.func167.trans (congrArg some (by kernel_rfl))⟩
  f34 := ⟨"slices.medianOrdered[int]", by decide, Tryz.func168.trans (congrArg some (by kernel_rfl))⟩
  f35 := ⟨"cmp.isNaN[int]", by decide, Tryz.func169.trans (congrArg some (by kernel_rfl))⟩
  f40 := ⟨"slices.order2Ordered[int]", by decide, Tryz.func171.trans (congrArg some (by kernel_rfl))⟩
  t0 := Tryz.underlying0
  a0 := Tryz.isAgg0
  z0 := Tryz.sizeOf0
  v0 := Tryz.zeroValue0
  t3 := Tryz.underlying3
  a3 := Tryz.isAgg3
  z3 := Tryz.sizeOf3
  v3 := Tryz.zeroValue3
  t4 := Tryz.underlying4
  a4 := Tryz.isAgg4
  z4 := Tryz.sizeOf4
  v4 := Tryz.zeroValue4
  t5 := Tryz.underlying5
  a5 := Tryz.isAgg5
  z5 := Tryz.sizeOf5
  v5 := Tryz.zeroValue5
  t9 := Tryz.underlying9
  a9 := Tryz.isAgg9
  z9 := Tryz.sizeOf9
  v9 := Tryz.zeroValue9
  t22 := Tryz.underlying23
  a22 := Tryz.isAgg23
  z22 := Tryz.sizeOf23
  v22 := Tryz.zeroValue23
  t23 := Tryz.underlying23
  a23 := Tryz.isAgg23
  z23 := Tryz.sizeOf23
  v23 := Tryz.zeroValue23
  t25 := Tryz.underlying3
  a25 := Tryz.isAgg3
  z25 := Tryz.sizeOf3
  v25 := Tryz.zeroValue3
  t32 := Tryz.underlying96
  a32 := Tryz.isAgg96
  z32 := Tryz.sizeOf96
  v32 := Tryz.zeroValue96
  t35 := Tryz.underlying147
  a35 := Tryz.isAgg147
  z35 := Tryz.sizeOf147
  v35 := Tryz.zeroValue147
  t36 := Tryz.underlying148
  a36 := Tryz.isAgg148
  z36 := Tryz.sizeOf148
  v36 := Tryz.zeroValue148
  t41 := Tryz.underlying153
  a41 := Tryz.isAgg153
  z41 := Tryz.sizeOf153
  v41 := Tryz.zeroValue153
  t44 := Tryz.underlying156
  a44 := Tryz.isAgg156
  z44 := Tryz.sizeOf156
  v44 := Tryz.zeroValue156
  t46 := Tryz.underlying158
  a46 := Tryz.isAgg158
  z46 := Tryz.sizeOf158
  v46 := Tryz.zeroValue158
  t53 := Tryz.underlying178
  a53 := Tryz.isAgg178
  z53 := Tryz.sizeOf178
  v53 := Tryz.zeroValue178
  t57 := Tryz.underlying182
  a57 := Tryz.isAgg182
  z57 := Tryz.sizeOf182
  v57 := Tryz.zeroValue182
  t63 := Tryz.underlying187
  a63 := Tryz.isAgg187
  z63 := Tryz.sizeOf187
  v63 := Tryz.zeroValue187
  t64 := Tryz.underlying188
  a64 := Tryz.isAgg188
  z64 := Tryz.sizeOf188
  v64 := Tryz.zeroValue188
open Go.RowKit Go.Maps Go.Sort
theorem sortsA (m : Nat) : AnyZI.SortsIn Tryz.prog Tryz.sortedA_ren Fence.wide m :=
  ⟨fun blk off cap ss W hH hblk hsz => callsIn_wide.2 (AnyM.slices_Sort_int Tryz.sortA blk off cap ss W hH hblk hsz),
   fun p cap W => callsIn_wide.2 (AnyM.slices_Sort_int_none Tryz.sortA p cap W)⟩
theorem sortedKeys : Am.SortedKeys Tryz.prog 67 129 3 := by
  intro Bm b nn D0 R w hBm hcell hown hmax hbytes
  have hseq : SeqGives Fence.wide 2 Tryz.prog 129 #[.pointer (some ⟨Bm, 0, none⟩)] encZ (fun ss => ss.Perm (intKeys D0)) (Maps.size D0) w :=
    AnyZI.keys_gives (ρ := Tryz.keysA_ren) { Tryz.keysA with } Fence.wide _ trivial rfl (by omega) Bm b nn D0 w hBm hcell hown
  have cS := AnyZI.sorted_in Tryz.sortedA Fence.wide 5 trivial trivial trivial trivial rfl (by omega) (sortsA _) (enters_of Tryz.func51 (by kernel_rfl) rfl) 129 #[.pointer (some ⟨Bm, 0, none⟩)] trivial (enters_of Tryz.func129 (by kernel_rfl) rfl) _ _ hmax hbytes _ hseq
  change CallsIn _ _ Tryz.prog 67 _ _ _ at cS
  exact callsIn_wide.1 (cS.mono fun e w' q => by
    obtain ⟨v, ss, rfl, hS, hrow, hnil, hb⟩ := q
    exact ⟨v, ss, rfl, hS, hrow, hnil, hb⟩)
instance lay : Am.Lay := ⟨fun _ => True, fun h _ => h⟩
theorem follows : Tryz.prog.follows .mixedOrders = true := by kernel_rfl
theorem names : (Tryz.prog.funcs.toList.all fun fn => !(fn.name == "runtime.NumGoroutine")) = true := by kernel_rfl
theorem namesOk : Am.NamesOk Tryz.prog := by
  intro f fn h
  have := List.all_eq_true.1 names fn (List.mem_of_getElem? (i := f) (by simpa using h))
  simpa using this
noncomputable def ctx : Am.Ctx := ⟨Tryz.prog, fun f => bif Nat.beq f 67 then some (Am.sortedKeysC 129) else none⟩
theorem primOk : Am.PrimOk ctx := by
  intro f p args h v h' hp he
  simp only [ctx] at hp
  cases hf : Nat.beq f 67 with
  | false => rw [hf] at hp; cases hp
  | true =>
    rw [hf] at hp
    simp only [cond_true, Option.some.injEq] at hp
    subst hp
    obtain rfl : f = 67 := Nat.eq_of_beq_eq_true hf
    exact ⟨⟨_, Tryz.func67, by kernel_rfl⟩, fun w0 E w xs hx s => Am.sortedKeys_ok Tryz.underlying3 sortedKeys he w0 E w xs hx s⟩
end Go.Proofs.YtjbiefneffiogaaGreat

namespace Go.Proofs.YtjbiefneffiogaaGreat
open Go Am
def c20 : RC :=
 RC.seq (RC.reg [⟨(some 1), .box (.t 0), none, [0]⟩,
 ⟨(some 2), .mv (.c (.int .i64 0)), none, []⟩])
 (RC.seq (RC.block 0 (RC.seq (RC.reg [⟨(some 4), .ldn 7 (.t 1), none, [1]⟩,
 ⟨(some 5), .call 44 [(.t 4)], none, [4]⟩,
 ⟨(some 6), .un .not (.t 5), none, [5]⟩,
 ⟨(some 3), .mv (.t 6), none, [6]⟩])
 (RC.cond (.t 3)
 (RC.seq (RC.reg [⟨(some 2), .mv (.c (.int .i64 2)), none, []⟩])
 (RC.ret))
 (RC.seq (RC.draw [⟨(some 8), .ldn 7 (.t 1), none, [1]⟩,
 ⟨(some 11), .ldn 7 (.t 1), none, [1]⟩,
 ⟨(some 9), .call 45 [(.t 8)], none, [8]⟩,
 ⟨(some 10), .len .slice (.t 9), none, [9]⟩,
 ⟨(some 12), .call 25 [(.t 11)], none, [11]⟩,
 ⟨(some 13), .len .slice (.t 12), none, [12]⟩,
 ⟨(some 14), .bin (.int .neq) (.t 10) (.t 13), none, [10, 13]⟩,
 ⟨(some 7), .mv (.t 14), none, [14]⟩] [(0, [2]), (1, [2, 4])])
 (RC.cond (.t 7)
 (RC.seq (RC.reg [⟨(some 2), .mv (.c (.int .i64 7)), none, []⟩])
 (RC.ret))
 (RC.seq (RC.reg [⟨(some 16), .ldn 7 (.t 1), none, [1]⟩,
 ⟨(some 17), .call 46 [(.t 16)], none, [16]⟩,
 ⟨(some 18), .len .slice (.t 17), none, [17]⟩,
 ⟨(some 19), .bin (.int .gtr) (.t 18) (.c (.int .i64 0)), none, [18]⟩,
 ⟨(some 15), .mv (.t 19), none, [19]⟩])
 (RC.cond (.t 15)
 (RC.seq (RC.reg [⟨(some 2), .mv (.c (.int .i64 6)), none, []⟩])
 (RC.ret))
 (RC.skip))))))))
 (RC.seq (RC.reg [⟨(some 2), .mv (.c (.int .i64 0)), none, []⟩])
 (RC.ret)))
theorem c20_ok : resK Tryz.prog Tryz.f20.ntmps (Tryz.f20.body.getD .skip) = c20 := by kernel_rfl
theorem c20_res : resR Tryz.prog Tryz.f20.ntmps Tryz.f20.results.toList = [.t 2] := by kernel_rfl
theorem c20_ctr {args : List V} {h : Heap} {K : V → Heap → Prop} (hl : Nat.ble args.length 20 = true) (H : wpC Tryz.prog c20 (RF.ofL args) h fun e r h' => e.ends ∧ ∃ vs, evR r h' [.t 2] = some vs ∧ K (oneOf vs) h') : Ctr Tryz.prog 20 args h K :=
 ctr_of_wp follows namesOk Tryz.func20 (c := Tryz.f20.body.getD .skip) (by kernel_rfl) (by kernel_rfl) hl c20_ok c20_res H
def c25 : RC :=
 RC.seq (RC.reg [⟨(some 1), .box (.t 0), none, [0]⟩,
 ⟨(some 2), .mv (.c .nilslice), none, []⟩])
 (RC.seq (RC.seq (RC.reg [⟨(some 4), .ldn 7 (.t 1), none, [1]⟩,
 ⟨(some 5), .call 44 [(.t 4)], none, [4]⟩,
 ⟨(some 6), .un .not (.t 5), none, [5]⟩])
 (RC.cond (.t 6)
 (RC.seq (RC.reg [⟨(some 2), .mv (.c .nilslice), none, []⟩])
 (RC.ret))
 (RC.skip)))
 (RC.seq (RC.reg [⟨(some 7), .ldn 7 (.t 1), none, [1]⟩,
 ⟨(some 8), .call 45 [(.t 7)], none, [7]⟩,
 ⟨(some 3), .mv (.t 8), none, [8]⟩])
 (RC.seq (RC.reg [⟨(some 9), .mv (.t 3), none, [3]⟩,
 ⟨(some 10), .call 51 [(.t 9)], none, [9]⟩])
 (RC.seq (RC.reg [⟨(some 11), .mv (.t 3), none, [3]⟩,
 ⟨(some 12), .call 52 [(.t 11)], none, [11]⟩,
 ⟨(some 2), .mv (.t 12), none, [12]⟩])
 (RC.ret)))))
theorem c25_ok : resK Tryz.prog Tryz.f25.ntmps (Tryz.f25.body.getD .skip) = c25 := by kernel_rfl
theorem c25_res : resR Tryz.prog Tryz.f25.ntmps Tryz.f25.results.toList = [.t 2] := by kernel_rfl
theorem c25_ctr {args : List V} {h : Heap} {K : V → Heap → Prop} (hl : Nat.ble args.length 13 = true) (H : wpC Tryz.prog c25 (RF.ofL args) h fun e r h' => e.ends ∧ ∃ vs, evR r h' [.t 2] = some vs ∧ K (oneOf vs) h') : Ctr Tryz.prog 25 args h K :=
 ctr_of_wp follows namesOk Tryz.func25 (c := Tryz.f25.body.getD .skip) (by kernel_rfl) (by kernel_rfl) hl c25_ok c25_res H
def c29l1 : RC :=
 RC.seq (RC.reg [⟨(some 33), .bin (.int .lss) (.t 32) (.t 31), none, [32, 31]⟩])
 (RC.seq (RC.cond (.t 33)
 (RC.skip)
 (RC.exit 0))
 (RC.seq (RC.block 1 (RC.seq (RC.reg [⟨(some 34), .mv (.t 32), none, [32]⟩,
 ⟨(some 35), .ia 1 (.t 30) (.t 32), none, [30, 32]⟩,
 ⟨(some 36), .ld1 (.t 35), none, [35]⟩,
 ⟨(some 9), .mv (.t 34), none, [34]⟩,
 ⟨(some 10), .mv (.t 36), none, [36]⟩])
 (RC.reg [⟨(some 37), .ld1 (.t 8), none, [8]⟩,
 ⟨(some 38), .mv (.t 10), none, [10]⟩,
 ⟨(some 39), .mv (.t 1), none, [1]⟩,
 ⟨(some 40), .mv (.t 9), none, [9]⟩,
 ⟨(some 41), .bin (.int .add) (.t 39) (.t 40), none, [39, 40]⟩,
 ⟨none, .upd .int (.t 37) (.t 38) (.t 41), none, [37, 38, 41]⟩])))
 (RC.reg [⟨(some 42), .bin (.int .add) (.t 32) (.c (.int .i64 1)), none, [32]⟩,
 ⟨(some 32), .mv (.t 42), none, [42]⟩])))
def c29 : RC :=
 RC.seq (RC.reg [⟨(some 2), .box (.t 0), none, [0]⟩,
 ⟨(some 4), .new [(.int .i64 0), (.int .i64 0), (.int .i64 0), (.str []), .nilslice, .nilslice, .nilslice], none, []⟩,
 ⟨(some 5), .mv (.c (.int .i64 0)), none, []⟩])
 (RC.seq (RC.seq (RC.reg [⟨(some 11), .ldn 7 (.t 2), none, [2]⟩,
 ⟨(some 12), .call 20 [(.t 11)], none, [11]⟩,
 ⟨(some 6), .mv (.t 12), none, [12]⟩])
 (RC.seq (RC.reg [⟨(some 13), .mv (.t 6), none, [6]⟩,
 ⟨(some 14), .bin (.int .neq) (.t 13) (.c (.int .i64 0)), none, [13]⟩])
 (RC.cond (.t 14)
 (RC.seq (RC.reg [⟨(some 15), .build [(.int .i64 0), (.int .i64 0), (.int .i64 0), (.str []), .nilslice, .nilslice, .nilslice] [], none, []⟩,
 ⟨(some 16), .mv (.t 6), none, [6]⟩,
 ⟨none, .st 7 (.t 4) (.t 15), none, [4, 15]⟩,
 ⟨(some 5), .mv (.t 16), none, [16]⟩])
 (RC.ret))
 (RC.skip))))
 (RC.seq (RC.reg [⟨(some 17), .ldn 7 (.t 2), none, [2]⟩,
 ⟨(some 18), .call 45 [(.t 17)], none, [17]⟩,
 ⟨(some 7), .mv (.t 18), none, [18]⟩])
 (RC.seq (RC.seq (RC.reg [⟨(some 19), .mv (.t 1), none, [1]⟩,
 ⟨(some 20), .bin (.int .lss) (.t 19) (.c (.int .i64 0)), none, [19]⟩,
 ⟨(some 21), .mv (.t 20), none, [20]⟩,
 ⟨(some 22), .mv (.t 7), (some (21, false)), [7, 21]⟩,
 ⟨(some 23), .len .slice (.t 22), (some (21, false)), [22, 21]⟩,
 ⟨(some 24), .mv (.t 1), (some (21, false)), [1, 21]⟩,
 ⟨(some 25), .bin (.int .sub) (.c (.int .i64 1048576)) (.t 24), (some (21, false)), [24, 21]⟩,
 ⟨(some 26), .bin (.int .gtr) (.t 23) (.t 25), (some (21, false)), [23, 25, 21]⟩,
 ⟨(some 27), .pick (.t 21) (.c (.bool true)) (.t 26), none, [21, 26]⟩])
 (RC.cond (.t 27)
 (RC.seq (RC.reg [⟨(some 28), .build [(.int .i64 0), (.int .i64 0), (.int .i64 0), (.str []), .nilslice, .nilslice, .nilslice] [], none, []⟩,
 ⟨none, .st 7 (.t 4) (.t 28), none, [4, 28]⟩,
 ⟨(some 5), .mv (.c (.int .i64 2)), none, []⟩])
 (RC.ret))
 (RC.skip)))
 (RC.seq (RC.reg [⟨(some 29), .mkm none, none, []⟩,
 ⟨(some 8), .new [.nilmap], none, []⟩,
 ⟨none, .st 1 (.t 8) (.t 29), none, [8, 29]⟩])
 (RC.seq (RC.seq (RC.reg [⟨(some 30), .mv (.t 7), none, [7]⟩,
 ⟨(some 31), .len .slice (.t 30), none, [30]⟩,
 ⟨(some 32), .mv (.c (.int .i64 0)), none, []⟩])
 (RC.block 0 (RC.loop c29l1)))
 (RC.seq (RC.reg [⟨(some 43), .ldn 7 (.t 2), none, [2]⟩,
 ⟨(some 44), .fn 56 [(.t 8)], none, [8]⟩,
 ⟨(some 45), .call 55 [(.t 43), (.t 44)], none, [43, 44]⟩,
 ⟨none, .st 7 (.t 4) (.t 45), none, [4, 45]⟩,
 ⟨(some 5), .mv (.c (.int .i64 0)), none, []⟩])
 (RC.ret)))))))
theorem c29_ok : resK Tryz.prog Tryz.f29.ntmps (Tryz.f29.body.getD .skip) = c29 := by kernel_rfl
theorem c29_res : resR Tryz.prog Tryz.f29.ntmps Tryz.f29.results.toList = [.cn 4 7, .t 5] := by kernel_rfl
theorem c29_ctr {args : List V} {h : Heap} {K : V → Heap → Prop} (hl : Nat.ble args.length 46 = true) (H : wpC Tryz.prog c29 (RF.ofL args) h fun e r h' => e.ends ∧ ∃ vs, evR r h' [.cn 4 7, .t 5] = some vs ∧ K (oneOf vs) h') : Ctr Tryz.prog 29 args h K :=
 ctr_of_wp follows namesOk Tryz.func29 (c := Tryz.f29.body.getD .skip) (by kernel_rfl) (by kernel_rfl) hl c29_ok c29_res H
def c44l1 : RC :=
 RC.seq (RC.reg [⟨(some 55), .bin (.int .lss) (.t 54) (.t 53), none, [54, 53]⟩])
 (RC.seq (RC.cond (.t 55)
 (RC.skip)
 (RC.exit 0))
 (RC.seq (RC.block 1 (RC.seq (RC.reg [⟨(some 56), .ia 7 (.t 52) (.t 54), none, [52, 54]⟩,
 ⟨(some 57), .ldn 7 (.t 56), none, [56]⟩,
 ⟨(some 5), .new [(.int .i64 0), (.int .i64 0), (.int .i64 0), (.str []), .nilslice, .nilslice, .nilslice], none, []⟩,
 ⟨none, .st 7 (.t 5) (.t 57), none, [5, 57]⟩])
 (RC.seq (RC.reg [⟨(some 58), .fa 0 (.t 5), none, [5]⟩,
 ⟨(some 59), .ld1 (.t 58), none, [58]⟩,
 ⟨(some 60), .bin (.int .neq) (.t 59) (.c (.int .i64 7)), none, [59]⟩,
 ⟨(some 61), .mv (.t 60), none, [60]⟩,
 ⟨(some 62), .ldn 7 (.t 5), (some (61, false)), [5, 61]⟩,
 ⟨(some 63), .call 61 [(.t 62), (.c (.bool true))], (some (61, false)), [62, 61]⟩,
 ⟨(some 64), .un .not (.t 63), (some (61, false)), [63, 61]⟩,
 ⟨(some 65), .pick (.t 61) (.c (.bool true)) (.t 64), none, [61, 64]⟩,
 ⟨(some 66), .mv (.t 65), none, [65]⟩,
 ⟨(some 67), .fa 6 (.t 5), (some (66, false)), [5, 66]⟩,
 ⟨(some 68), .ld1 (.t 67), (some (66, false)), [67, 66]⟩,
 ⟨(some 69), .ia 7 (.t 68) (.c (.int .i64 0)), (some (66, false)), [68, 66]⟩,
 ⟨(some 70), .ldn 7 (.t 69), (some (66, false)), [69, 66]⟩,
 ⟨(some 71), .call 44 [(.t 70)], (some (66, false)), [70, 66]⟩,
 ⟨(some 72), .un .not (.t 71), (some (66, false)), [71, 66]⟩,
 ⟨(some 73), .pick (.t 66) (.c (.bool true)) (.t 72), none, [66, 72]⟩])
 (RC.cond (.t 73)
 (RC.seq (RC.reg [⟨(some 2), .mv (.c (.bool false)), none, []⟩])
 (RC.ret))
 (RC.skip)))))
 (RC.reg [⟨(some 74), .bin (.int .add) (.t 54) (.c (.int .i64 1)), none, [54]⟩,
 ⟨(some 54), .mv (.t 74), none, [74]⟩])))
def c44 : RC :=
 RC.seq (RC.reg [⟨(some 1), .box (.t 0), none, [0]⟩,
 ⟨(some 2), .mv (.c (.bool false)), none, []⟩])
 (RC.seq (RC.seq (RC.reg [⟨(some 6), .fa 0 (.t 1), none, [1]⟩,
 ⟨(some 7), .ld1 (.t 6), none, [6]⟩,
 ⟨(some 8), .bin (.int .neq) (.t 7) (.c (.int .i64 8)), none, [7]⟩])
 (RC.cond (.t 8)
 (RC.seq (RC.seq (RC.reg [⟨(some 9), .ldn 7 (.t 1), none, [1]⟩,
 ⟨(some 10), .call 61 [(.t 9), (.c (.bool false))], none, [9]⟩,
 ⟨(some 11), .un .not (.t 10), none, [10]⟩])
 (RC.cond (.t 11)
 (RC.seq (RC.reg [⟨(some 2), .mv (.c (.bool false)), none, []⟩])
 (RC.ret))
 (RC.skip)))
 (RC.seq (RC.reg [⟨(some 12), .fa 6 (.t 1), none, [1]⟩,
 ⟨(some 13), .ld1 (.t 12), none, [12]⟩,
 ⟨(some 14), .call 62 [(.t 13), (.c (.func 63 []))], none, [13]⟩,
 ⟨(some 15), .un .not (.t 14), none, [14]⟩,
 ⟨(some 2), .mv (.t 15), none, [15]⟩])
 (RC.ret)))
 (RC.skip)))
 (RC.seq (RC.reg [⟨(some 16), .fa 6 (.t 1), none, [1]⟩,
 ⟨(some 17), .ld1 (.t 16), none, [16]⟩,
 ⟨(some 18), .len .slice (.t 17), none, [17]⟩,
 ⟨(some 19), .bin (.int .sub) (.t 18) (.c (.int .i64 1)), none, [18]⟩,
 ⟨(some 3), .mv (.t 19), none, [19]⟩])
 (RC.seq (RC.seq (RC.reg [⟨(some 20), .fa 1 (.t 1), none, [1]⟩,
 ⟨(some 21), .ld1 (.t 20), none, [20]⟩,
 ⟨(some 22), .bin (.int .neq) (.t 21) (.c (.int .i64 0)), none, [21]⟩,
 ⟨(some 23), .mv (.t 22), none, [22]⟩,
 ⟨(some 24), .fa 2 (.t 1), (some (23, false)), [1, 23]⟩,
 ⟨(some 25), .ld1 (.t 24), (some (23, false)), [24, 23]⟩,
 ⟨(some 26), .bin (.int .neq) (.t 25) (.c (.int .i64 0)), (some (23, false)), [25, 23]⟩,
 ⟨(some 27), .pick (.t 23) (.c (.bool true)) (.t 26), none, [23, 26]⟩,
 ⟨(some 28), .mv (.t 27), none, [27]⟩,
 ⟨(some 29), .fa 3 (.t 1), (some (28, false)), [1, 28]⟩,
 ⟨(some 30), .ld1 (.t 29), (some (28, false)), [29, 28]⟩,
 ⟨(some 31), .bin (.str .neq) (.t 30) (.c (.str [])), (some (28, false)), [30, 28]⟩,
 ⟨(some 32), .pick (.t 28) (.c (.bool true)) (.t 31), none, [28, 31]⟩,
 ⟨(some 33), .mv (.t 32), none, [32]⟩,
 ⟨(some 34), .fa 5 (.t 1), (some (33, false)), [1, 33]⟩,
 ⟨(some 35), .ld1 (.t 34), (some (33, false)), [34, 33]⟩,
 ⟨(some 36), .len .slice (.t 35), (some (33, false)), [35, 33]⟩,
 ⟨(some 37), .bin (.int .gtr) (.t 36) (.c (.int .i64 0)), (some (33, false)), [36, 33]⟩,
 ⟨(some 38), .pick (.t 33) (.c (.bool true)) (.t 37), none, [33, 37]⟩,
 ⟨(some 39), .mv (.t 38), none, [38]⟩,
 ⟨(some 40), .fa 4 (.t 1), (some (39, false)), [1, 39]⟩,
 ⟨(some 41), .ld1 (.t 40), (some (39, false)), [40, 39]⟩,
 ⟨(some 42), .len .slice (.t 41), (some (39, false)), [41, 39]⟩,
 ⟨(some 43), .bin (.int .gtr) (.t 42) (.c (.int .i64 0)), (some (39, false)), [42, 39]⟩,
 ⟨(some 44), .pick (.t 39) (.c (.bool true)) (.t 43), none, [39, 43]⟩,
 ⟨(some 45), .mv (.t 44), none, [44]⟩,
 ⟨(some 46), .mv (.t 3), (some (45, false)), [3, 45]⟩,
 ⟨(some 47), .bin (.int .lss) (.t 46) (.c (.int .i64 1)), (some (45, false)), [46, 45]⟩,
 ⟨(some 48), .pick (.t 45) (.c (.bool true)) (.t 47), none, [45, 47]⟩])
 (RC.cond (.t 48)
 (RC.seq (RC.reg [⟨(some 2), .mv (.c (.bool false)), none, []⟩])
 (RC.ret))
 (RC.skip)))
 (RC.seq (RC.seq (RC.reg [⟨(some 49), .fa 6 (.t 1), none, [1]⟩,
 ⟨(some 50), .ld1 (.t 49), none, [49]⟩,
 ⟨(some 51), .mv (.t 3), none, [3]⟩,
 ⟨(some 52), .sl 7 (.t 50) none (some (.t 51)) none, none, [50, 51]⟩,
 ⟨(some 53), .len .slice (.t 52), none, [52]⟩,
 ⟨(some 54), .mv (.c (.int .i64 0)), none, []⟩])
 (RC.block 0 (RC.loop c44l1)))
 (RC.seq (RC.reg [⟨(some 75), .fa 6 (.t 1), none, [1]⟩,
 ⟨(some 76), .ld1 (.t 75), none, [75]⟩,
 ⟨(some 77), .mv (.t 3), none, [3]⟩,
 ⟨(some 78), .ia 7 (.t 76) (.t 77), none, [76, 77]⟩,
 ⟨(some 79), .ldn 7 (.t 78), none, [78]⟩,
 ⟨(some 80), .call 44 [(.t 79)], none, [79]⟩,
 ⟨(some 2), .mv (.t 80), none, [80]⟩])
 (RC.ret))))))
theorem c44_ok : resK Tryz.prog Tryz.f44.ntmps (Tryz.f44.body.getD .skip) = c44 := by kernel_rfl
theorem c44_res : resR Tryz.prog Tryz.f44.ntmps Tryz.f44.results.toList = [.t 2] := by kernel_rfl
theorem c44_ctr {args : List V} {h : Heap} {K : V → Heap → Prop} (hl : Nat.ble args.length 81 = true) (H : wpC Tryz.prog c44 (RF.ofL args) h fun e r h' => e.ends ∧ ∃ vs, evR r h' [.t 2] = some vs ∧ K (oneOf vs) h') : Ctr Tryz.prog 44 args h K :=
 ctr_of_wp follows namesOk Tryz.func44 (c := Tryz.f44.body.getD .skip) (by kernel_rfl) (by kernel_rfl) hl c44_ok c44_res H
def c45 : RC :=
 RC.seq (RC.reg [⟨(some 1), .box (.t 0), none, [0]⟩,
 ⟨(some 2), .mv (.c .nilslice), none, []⟩])
 (RC.seq (RC.reg [⟨(some 3), .new [.nilslice], none, []⟩])
 (RC.seq (RC.reg [⟨(some 4), .new [.nilfunc], none, []⟩])
 (RC.seq (RC.reg [⟨(some 5), .fn 64 [(.t 3), (.t 4)], none, [3, 4]⟩,
 ⟨none, .st 1 (.t 4) (.t 5), none, [4, 5]⟩])
 (RC.seq (RC.reg [⟨(some 6), .ld1 (.t 4), none, [4]⟩,
 ⟨(some 7), .ldn 7 (.t 1), none, [1]⟩,
 ⟨(some 8), .callv (.t 6) [(.t 7)], none, [6, 7]⟩])
 (RC.seq (RC.reg [⟨(some 9), .ld1 (.t 3), none, [3]⟩,
 ⟨(some 2), .mv (.t 9), none, [9]⟩])
 (RC.ret))))))
theorem c45_ok : resK Tryz.prog Tryz.f45.ntmps (Tryz.f45.body.getD .skip) = c45 := by kernel_rfl
theorem c45_res : resR Tryz.prog Tryz.f45.ntmps Tryz.f45.results.toList = [.t 2] := by kernel_rfl
theorem c45_ctr {args : List V} {h : Heap} {K : V → Heap → Prop} (hl : Nat.ble args.length 10 = true) (H : wpC Tryz.prog c45 (RF.ofL args) h fun e r h' => e.ends ∧ ∃ vs, evR r h' [.t 2] = some vs ∧ K (oneOf vs) h') : Ctr Tryz.prog 45 args h K :=
 ctr_of_wp follows namesOk Tryz.func45 (c := Tryz.f45.body.getD .skip) (by kernel_rfl) (by kernel_rfl) hl c45_ok c45_res H
def c46 : RC :=
 RC.seq (RC.reg [⟨(some 1), .box (.t 0), none, [0]⟩,
 ⟨(some 2), .mv (.c .nilslice), none, []⟩])
 (RC.seq (RC.reg [⟨(some 6), .mkm none, none, []⟩,
 ⟨(some 3), .new [.nilmap], none, []⟩,
 ⟨none, .st 1 (.t 3) (.t 6), none, [3, 6]⟩])
 (RC.seq (RC.reg [⟨(some 7), .mkm none, none, []⟩,
 ⟨(some 4), .new [.nilmap], none, []⟩,
 ⟨none, .st 1 (.t 4) (.t 7), none, [4, 7]⟩])
 (RC.seq (RC.reg [⟨(some 5), .new [.nilfunc], none, []⟩])
 (RC.seq (RC.reg [⟨(some 8), .fn 66 [(.t 4), (.t 3), (.t 5)], none, [4, 3, 5]⟩,
 ⟨none, .st 1 (.t 5) (.t 8), none, [5, 8]⟩])
 (RC.seq (RC.reg [⟨(some 9), .ld1 (.t 5), none, [5]⟩,
 ⟨(some 10), .ldn 7 (.t 1), none, [1]⟩,
 ⟨(some 11), .callv (.t 9) [(.t 10)], none, [9, 10]⟩])
 (RC.seq (RC.reg [⟨(some 12), .ld1 (.t 3), none, [3]⟩,
 ⟨(some 13), .call 68 [(.t 12)], none, [12]⟩,
 ⟨(some 14), .call 67 [(.t 13)], none, [13]⟩,
 ⟨(some 2), .mv (.t 14), none, [14]⟩])
 (RC.ret)))))))
theorem c46_ok : resK Tryz.prog Tryz.f46.ntmps (Tryz.f46.body.getD .skip) = c46 := by kernel_rfl
theorem c46_res : resR Tryz.prog Tryz.f46.ntmps Tryz.f46.results.toList = [.t 2] := by kernel_rfl
theorem c46_ctr {args : List V} {h : Heap} {K : V → Heap → Prop} (hl : Nat.ble args.length 15 = true) (H : wpC Tryz.prog c46 (RF.ofL args) h fun e r h' => e.ends ∧ ∃ vs, evR r h' [.t 2] = some vs ∧ K (oneOf vs) h') : Ctr Tryz.prog 46 args h K :=
 ctr_of_wp follows namesOk Tryz.func46 (c := Tryz.f46.body.getD .skip) (by kernel_rfl) (by kernel_rfl) hl c46_ok c46_res H
def c52l1 : RC :=
 RC.seq (RC.seq (RC.reg [⟨(some 29), .mv (.t 5), none, [5]⟩,
 ⟨(some 30), .mv (.t 4), none, [4]⟩,
 ⟨(some 31), .len .slice (.t 30), none, [30]⟩,
 ⟨(some 32), .bin (.int .lss) (.t 29) (.t 31), none, [29, 31]⟩])
 (RC.cond (.t 32)
 (RC.skip)
 (RC.exit 2)))
 (RC.seq (RC.block 3 (RC.seq (RC.draw [⟨(some 35), .mv (.t 4), none, [4]⟩,
 ⟨(some 36), .mv (.t 5), none, [5]⟩,
 ⟨(some 37), .ia 1 (.t 35) (.t 36), none, [35, 36]⟩,
 ⟨(some 38), .ld1 (.t 37), none, [37]⟩,
 ⟨(some 39), .mv (.t 4), none, [4]⟩,
 ⟨(some 40), .mv (.t 5), none, [5]⟩,
 ⟨(some 41), .bin (.int .sub) (.t 40) (.c (.int .i64 1)), none, [40]⟩,
 ⟨(some 42), .ia 1 (.t 39) (.t 41), none, [39, 41]⟩,
 ⟨(some 43), .ld1 (.t 42), none, [42]⟩,
 ⟨(some 44), .bin (.int .neq) (.t 38) (.t 43), none, [38, 43]⟩] [])
 (RC.cond (.t 44)
 (RC.seq (RC.reg [⟨(some 45), .mv (.t 0), none, [0]⟩,
 ⟨(some 46), .mv (.t 3), none, [3]⟩,
 ⟨(some 47), .mv (.t 4), none, [4]⟩,
 ⟨(some 48), .mv (.t 5), none, [5]⟩,
 ⟨(some 49), .ia 1 (.t 47) (.t 48), none, [47, 48]⟩,
 ⟨(some 50), .ld1 (.t 49), none, [49]⟩,
 ⟨(some 51), .ia 1 (.t 45) (.t 46), none, [45, 46]⟩,
 ⟨none, .st 1 (.t 51) (.t 50), none, [51, 50]⟩])
 (RC.reg [⟨(some 52), .mv (.t 3), none, [3]⟩,
 ⟨(some 53), .bin (.int .add) (.t 52) (.c (.int .i64 1)), none, [52]⟩,
 ⟨(some 3), .mv (.t 53), none, [53]⟩]))
 (RC.skip))))
 (RC.reg [⟨(some 33), .mv (.t 5), none, [5]⟩,
 ⟨(some 34), .bin (.int .add) (.t 33) (.c (.int .i64 1)), none, [33]⟩,
 ⟨(some 5), .mv (.t 34), none, [34]⟩]))
def c52l2 : RC :=
 RC.seq (RC.seq (RC.reg [⟨(some 10), .mv (.t 3), none, [3]⟩,
 ⟨(some 11), .mv (.t 0), none, [0]⟩,
 ⟨(some 12), .len .slice (.t 11), none, [11]⟩,
 ⟨(some 13), .bin (.int .lss) (.t 10) (.t 12), none, [10, 12]⟩])
 (RC.cond (.t 13)
 (RC.skip)
 (RC.exit 0)))
 (RC.seq (RC.block 1 (RC.seq (RC.draw [⟨(some 16), .mv (.t 0), none, [0]⟩,
 ⟨(some 17), .mv (.t 3), none, [3]⟩,
 ⟨(some 18), .ia 1 (.t 16) (.t 17), none, [16, 17]⟩,
 ⟨(some 19), .ld1 (.t 18), none, [18]⟩,
 ⟨(some 20), .mv (.t 0), none, [0]⟩,
 ⟨(some 21), .mv (.t 3), none, [3]⟩,
 ⟨(some 22), .bin (.int .sub) (.t 21) (.c (.int .i64 1)), none, [21]⟩,
 ⟨(some 23), .ia 1 (.t 20) (.t 22), none, [20, 22]⟩,
 ⟨(some 24), .ld1 (.t 23), none, [23]⟩,
 ⟨(some 25), .bin (.int .eql) (.t 19) (.t 24), none, [19, 24]⟩] [])
 (RC.cond (.t 25)
 (RC.seq (RC.reg [⟨(some 26), .mv (.t 0), none, [0]⟩,
 ⟨(some 27), .mv (.t 3), none, [3]⟩,
 ⟨(some 28), .sl 1 (.t 26) (some (.t 27)) none none, none, [26, 27]⟩,
 ⟨(some 4), .mv (.t 28), none, [28]⟩])
 (RC.seq (RC.seq (RC.reg [⟨(some 5), .mv (.c (.int .i64 1)), none, []⟩])
 (RC.block 2 (RC.loop c52l1)))
 (RC.seq (RC.reg [⟨(some 54), .mv (.t 0), none, [0]⟩,
 ⟨(some 55), .mv (.t 3), none, [3]⟩,
 ⟨(some 56), .sl 1 (.t 54) (some (.t 55)) none none, none, [54, 55]⟩,
 ⟨none, .clr [(.int .i64 0)] (.t 56), none, [56]⟩])
 (RC.seq (RC.reg [⟨(some 57), .mv (.t 0), none, [0]⟩,
 ⟨(some 58), .mv (.t 3), none, [3]⟩,
 ⟨(some 59), .sl 1 (.t 57) none (some (.t 58)) none, none, [57, 58]⟩,
 ⟨(some 2), .mv (.t 59), none, [59]⟩])
 (RC.ret)))))
 (RC.skip))))
 (RC.reg [⟨(some 14), .mv (.t 3), none, [3]⟩,
 ⟨(some 15), .bin (.int .add) (.t 14) (.c (.int .i64 1)), none, [14]⟩,
 ⟨(some 3), .mv (.t 15), none, [15]⟩]))
def c52 : RC :=
 RC.seq (RC.reg [⟨(some 2), .mv (.c .nilslice), none, []⟩])
 (RC.seq (RC.seq (RC.reg [⟨(some 6), .mv (.t 0), none, [0]⟩,
 ⟨(some 7), .len .slice (.t 6), none, [6]⟩,
 ⟨(some 8), .bin (.int .lss) (.t 7) (.c (.int .i64 2)), none, [7]⟩])
 (RC.cond (.t 8)
 (RC.seq (RC.reg [⟨(some 9), .mv (.t 0), none, [0]⟩,
 ⟨(some 2), .mv (.t 9), none, [9]⟩])
 (RC.ret))
 (RC.skip)))
 (RC.seq (RC.seq (RC.reg [⟨(some 3), .mv (.c (.int .i64 1)), none, []⟩])
 (RC.block 0 (RC.loop c52l2)))
 (RC.seq (RC.reg [⟨(some 60), .mv (.t 0), none, [0]⟩,
 ⟨(some 2), .mv (.t 60), none, [60]⟩])
 (RC.ret))))
theorem c52_ok : resK Tryz.prog Tryz.f52.ntmps (Tryz.f52.body.getD .skip) = c52 := by kernel_rfl
theorem c52_res : resR Tryz.prog Tryz.f52.ntmps Tryz.f52.results.toList = [.t 2] := by kernel_rfl
theorem c52_ctr {args : List V} {h : Heap} {K : V → Heap → Prop} (hl : Nat.ble args.length 61 = true) (H : wpC Tryz.prog c52 (RF.ofL args) h fun e r h' => e.ends ∧ ∃ vs, evR r h' [.t 2] = some vs ∧ K (oneOf vs) h') : Ctr Tryz.prog 52 args h K :=
 ctr_of_wp follows namesOk Tryz.func52 (c := Tryz.f52.body.getD .skip) (by kernel_rfl) (by kernel_rfl) hl c52_ok c52_res H
def c55l1 : RC :=
 RC.seq (RC.reg [⟨(some 38), .bin (.int .lss) (.t 37) (.t 36), none, [37, 36]⟩])
 (RC.seq (RC.cond (.t 38)
 (RC.skip)
 (RC.exit 1))
 (RC.seq (RC.block 2 (RC.seq (RC.reg [⟨(some 39), .ia 3 (.t 35) (.t 37), none, [35, 37]⟩,
 ⟨(some 40), .ldn 3 (.t 39), none, [39]⟩,
 ⟨(some 7), .new [(.int .i64 0), (.int .i64 0), (.str [])], none, []⟩,
 ⟨none, .st 3 (.t 7) (.t 40), none, [7, 40]⟩])
 (RC.seq (RC.seq (RC.reg [⟨(some 41), .fa 0 (.t 7), none, [7]⟩,
 ⟨(some 42), .ld1 (.t 41), none, [41]⟩,
 ⟨(some 43), .bin (.int .eql) (.t 42) (.c (.int .i64 1)), none, [42]⟩])
 (RC.cond (.t 43)
 (RC.reg [⟨(some 44), .mv (.t 1), none, [1]⟩,
 ⟨(some 45), .fa 1 (.t 7), none, [7]⟩,
 ⟨(some 46), .ld1 (.t 45), none, [45]⟩,
 ⟨(some 47), .callv (.t 44) [(.t 46)], none, [44, 46]⟩,
 ⟨(some 48), .fa 1 (.t 7), none, [7]⟩,
 ⟨none, .st 1 (.t 48) (.t 47), none, [48, 47]⟩])
 (RC.skip)))
 (RC.reg [⟨(some 49), .fa 4 (.t 5), none, [5]⟩,
 ⟨(some 50), .ld1 (.t 49), none, [49]⟩,
 ⟨(some 51), .ldn 3 (.t 7), none, [7]⟩,
 ⟨(some 52), .bsl 1 3 [(.int .i64 0), (.int .i64 0), (.str [])] [(0, 3, (.t 51))], none, [51]⟩,
 ⟨(some 53), .app 3 (.t 50) (.t 52), none, [50, 52]⟩,
 ⟨(some 54), .fa 4 (.t 5), none, [5]⟩,
 ⟨none, .st 1 (.t 54) (.t 53), none, [54, 53]⟩]))))
 (RC.reg [⟨(some 55), .bin (.int .add) (.t 37) (.c (.int .i64 1)), none, [37]⟩,
 ⟨(some 37), .mv (.t 55), none, [55]⟩])))
def c55l2 : RC :=
 RC.seq (RC.reg [⟨(some 60), .bin (.int .lss) (.t 59) (.t 58), none, [59, 58]⟩])
 (RC.seq (RC.cond (.t 60)
 (RC.skip)
 (RC.exit 3))
 (RC.seq (RC.block 4 (RC.seq (RC.reg [⟨(some 61), .mv (.t 59), none, [59]⟩,
 ⟨(some 62), .ia 7 (.t 57) (.t 59), none, [57, 59]⟩,
 ⟨(some 63), .ldn 7 (.t 62), none, [62]⟩,
 ⟨(some 9), .new [(.int .i64 0), (.int .i64 0), (.int .i64 0), (.str []), .nilslice, .nilslice, .nilslice], none, []⟩,
 ⟨(some 8), .mv (.t 61), none, [61]⟩,
 ⟨none, .st 7 (.t 9) (.t 63), none, [9, 63]⟩])
 (RC.seq (RC.reg [⟨(some 64), .ldn 7 (.t 9), none, [9]⟩,
 ⟨(some 65), .mv (.t 1), none, [1]⟩,
 ⟨(some 66), .call 55 [(.t 64), (.t 65)], none, [64, 65]⟩,
 ⟨none, .st 7 (.t 9) (.t 66), none, [9, 66]⟩])
 (RC.seq (RC.seq (RC.reg [⟨(some 67), .fa 0 (.t 2), none, [2]⟩,
 ⟨(some 68), .ld1 (.t 67), none, [67]⟩,
 ⟨(some 69), .bin (.int .eql) (.t 68) (.c (.int .i64 8)), none, [68]⟩,
 ⟨(some 70), .mv (.t 69), none, [69]⟩,
 ⟨(some 71), .mv (.t 8), (some (70, true)), [8, 70]⟩,
 ⟨(some 72), .fa 6 (.t 2), (some (70, true)), [2, 70]⟩,
 ⟨(some 73), .ld1 (.t 72), (some (70, true)), [72, 70]⟩,
 ⟨(some 74), .len .slice (.t 73), (some (70, true)), [73, 70]⟩,
 ⟨(some 75), .bin (.int .sub) (.t 74) (.c (.int .i64 1)), (some (70, true)), [74, 70]⟩,
 ⟨(some 76), .bin (.int .lss) (.t 71) (.t 75), (some (70, true)), [71, 75, 70]⟩,
 ⟨(some 77), .pick (.t 70) (.t 76) (.c (.bool false)), none, [70, 76]⟩])
 (RC.cond (.t 77)
 (RC.reg [⟨(some 78), .mv (.t 1), none, [1]⟩,
 ⟨(some 79), .fa 2 (.t 9), none, [9]⟩,
 ⟨(some 80), .ld1 (.t 79), none, [79]⟩,
 ⟨(some 81), .callv (.t 78) [(.t 80)], none, [78, 80]⟩,
 ⟨(some 82), .fa 2 (.t 9), none, [9]⟩,
 ⟨none, .st 1 (.t 82) (.t 81), none, [82, 81]⟩])
 (RC.skip)))
 (RC.reg [⟨(some 83), .fa 6 (.t 5), none, [5]⟩,
 ⟨(some 84), .ld1 (.t 83), none, [83]⟩,
 ⟨(some 85), .ldn 7 (.t 9), none, [9]⟩,
 ⟨(some 86), .bsl 1 7 [(.int .i64 0), (.int .i64 0), (.int .i64 0), (.str []), .nilslice, .nilslice, .nilslice] [(0, 7, (.t 85))], none, [85]⟩,
 ⟨(some 87), .app 7 (.t 84) (.t 86), none, [84, 86]⟩,
 ⟨(some 88), .fa 6 (.t 5), none, [5]⟩,
 ⟨none, .st 1 (.t 88) (.t 87), none, [88, 87]⟩])))))
 (RC.reg [⟨(some 89), .bin (.int .add) (.t 59) (.c (.int .i64 1)), none, [59]⟩,
 ⟨(some 59), .mv (.t 89), none, [89]⟩])))
def c55 : RC :=
 RC.seq (RC.reg [⟨(some 2), .box (.t 0), none, [0]⟩,
 ⟨(some 4), .new [(.int .i64 0), (.int .i64 0), (.int .i64 0), (.str []), .nilslice, .nilslice, .nilslice], none, []⟩])
 (RC.seq (RC.draw [⟨(some 10), .fa 0 (.t 2), none, [2]⟩,
 ⟨(some 11), .ld1 (.t 10), none, [10]⟩,
 ⟨(some 12), .fa 1 (.t 2), none, [2]⟩,
 ⟨(some 13), .ld1 (.t 12), none, [12]⟩,
 ⟨(some 14), .fa 2 (.t 2), none, [2]⟩,
 ⟨(some 15), .ld1 (.t 14), none, [14]⟩,
 ⟨(some 16), .fa 3 (.t 2), none, [2]⟩,
 ⟨(some 17), .ld1 (.t 16), none, [16]⟩,
 ⟨(some 18), .fa 5 (.t 2), none, [2]⟩,
 ⟨(some 19), .ld1 (.t 18), none, [18]⟩,
 ⟨(some 5), .new [(.int .i64 0), (.int .i64 0), (.int .i64 0), (.str []), .nilslice, .nilslice, .nilslice], none, []⟩,
 ⟨(some 20), .call 75 [(.t 19)], none, [19]⟩,
 ⟨(some 21), .build [(.int .i64 0), (.int .i64 0), (.int .i64 0), (.str []), .nilslice, .nilslice, .nilslice] [(0, 1, (.t 11)), (1, 1, (.t 13)), (2, 1, (.t 15)), (3, 1, (.t 17)), (5, 1, (.t 20))], none, [11, 13, 15, 17, 20]⟩,
 ⟨none, .st 7 (.t 5) (.t 21), none, [5, 21]⟩] [(1, [11, 13]), (3, [11, 13]), (5, [11, 13]), (7, [11, 13]), (9, [11])])
 (RC.seq (RC.seq (RC.reg [⟨(some 22), .fa 0 (.t 2), none, [2]⟩,
 ⟨(some 23), .ld1 (.t 22), none, [22]⟩])
 (RC.block 0 (RC.seq (RC.seq (RC.reg [⟨(some 25), .bin (.int .eql) (.t 23) (.c (.int .i64 2)), none, [23]⟩,
 ⟨(some 24), .mv (.t 25), none, [25]⟩])
 (RC.cond (.t 24)
 (RC.skip)
 (RC.seq (RC.reg [⟨(some 26), .bin (.int .eql) (.t 23) (.c (.int .i64 11)), none, [23]⟩,
 ⟨(some 24), .mv (.t 26), none, [26]⟩])
 (RC.cond (.t 24)
 (RC.skip)
 (RC.seq (RC.reg [⟨(some 27), .bin (.int .eql) (.t 23) (.c (.int .i64 7)), none, [23]⟩,
 ⟨(some 24), .mv (.t 27), none, [27]⟩])
 (RC.cond (.t 24)
 (RC.skip)
 (RC.reg [⟨(some 28), .bin (.int .eql) (.t 23) (.c (.int .i64 14)), none, [23]⟩,
 ⟨(some 24), .mv (.t 28), none, [28]⟩])))))))
 (RC.cond (.t 24)
 (RC.reg [⟨(some 29), .mv (.t 1), none, [1]⟩,
 ⟨(some 30), .fa 1 (.t 2), none, [2]⟩,
 ⟨(some 31), .ld1 (.t 30), none, [30]⟩,
 ⟨(some 32), .callv (.t 29) [(.t 31)], none, [29, 31]⟩,
 ⟨(some 33), .fa 1 (.t 5), none, [5]⟩,
 ⟨none, .st 1 (.t 33) (.t 32), none, [33, 32]⟩])
 (RC.skip)))))
 (RC.seq (RC.seq (RC.reg [⟨(some 34), .fa 4 (.t 2), none, [2]⟩,
 ⟨(some 35), .ld1 (.t 34), none, [34]⟩,
 ⟨(some 36), .len .slice (.t 35), none, [35]⟩,
 ⟨(some 37), .mv (.c (.int .i64 0)), none, []⟩])
 (RC.block 1 (RC.loop c55l1)))
 (RC.seq (RC.seq (RC.reg [⟨(some 56), .fa 6 (.t 2), none, [2]⟩,
 ⟨(some 57), .ld1 (.t 56), none, [56]⟩,
 ⟨(some 58), .len .slice (.t 57), none, [57]⟩,
 ⟨(some 59), .mv (.c (.int .i64 0)), none, []⟩])
 (RC.block 3 (RC.loop c55l2)))
 (RC.seq (RC.reg [⟨(some 90), .ldn 7 (.t 5), none, [5]⟩,
 ⟨none, .st 7 (.t 4) (.t 90), none, [4, 90]⟩])
 (RC.ret))))))
theorem c55_ok : resK Tryz.prog Tryz.f55.ntmps (Tryz.f55.body.getD .skip) = c55 := by kernel_rfl
theorem c55_res : resR Tryz.prog Tryz.f55.ntmps Tryz.f55.results.toList = [.cn 4 7] := by kernel_rfl
theorem c55_ctr {args : List V} {h : Heap} {K : V → Heap → Prop} (hl : Nat.ble args.length 91 = true) (H : wpC Tryz.prog c55 (RF.ofL args) h fun e r h' => e.ends ∧ ∃ vs, evR r h' [.cn 4 7] = some vs ∧ K (oneOf vs) h') : Ctr Tryz.prog 55 args h K :=
 ctr_of_wp follows namesOk Tryz.func55 (c := Tryz.f55.body.getD .skip) (by kernel_rfl) (by kernel_rfl) hl c55_ok c55_res H
def c56 : RC :=
 RC.seq (RC.reg [⟨(some 3), .mv (.c (.int .i64 0)), none, []⟩])
 (RC.seq (RC.reg [⟨(some 4), .ld1 (.t 1), none, [1]⟩,
 ⟨(some 5), .mv (.t 0), none, [0]⟩,
 ⟨(some 6), .look .int (.int .i64 0) false (.t 4) (.t 5), none, [4, 5]⟩,
 ⟨(some 3), .mv (.t 6), none, [6]⟩])
 (RC.ret))
theorem c56_ok : resK Tryz.prog Tryz.f56.ntmps (Tryz.f56.body.getD .skip) = c56 := by kernel_rfl
theorem c56_res : resR Tryz.prog Tryz.f56.ntmps Tryz.f56.results.toList = [.t 3] := by kernel_rfl
theorem c56_ctr {args : List V} {h : Heap} {K : V → Heap → Prop} (hl : Nat.ble args.length 7 = true) (H : wpC Tryz.prog c56 (RF.ofL args) h fun e r h' => e.ends ∧ ∃ vs, evR r h' [.t 3] = some vs ∧ K (oneOf vs) h') : Ctr Tryz.prog 56 args h K :=
 ctr_of_wp follows namesOk Tryz.func56 (c := Tryz.f56.body.getD .skip) (by kernel_rfl) (by kernel_rfl) hl c56_ok c56_res H
def c61 : RC :=
 RC.seq (RC.reg [⟨(some 2), .box (.t 0), none, [0]⟩,
 ⟨(some 4), .mv (.c (.bool false)), none, []⟩])
 (RC.seq (RC.reg [⟨(some 8), .fa 0 (.t 2), none, [2]⟩,
 ⟨(some 9), .ld1 (.t 8), none, [8]⟩,
 ⟨(some 10), .call 119 [(.t 9)], none, [9]⟩,
 ⟨(some 7), .mv (.t 10), none, [10]⟩,
 ⟨(some 11), .ext (.t 7) 0, none, [7]⟩,
 ⟨(some 12), .ext (.t 7) 1, none, [7]⟩,
 ⟨(some 5), .new [(.bool false), (.bool false), (.bool false), (.bool false), (.int .i64 0), (.int .i64 0), (.int .i64 0), (.int .i64 0)], none, []⟩,
 ⟨none, .st 8 (.t 5) (.t 11), none, [5, 11]⟩,
 ⟨(some 6), .mv (.t 12), none, [12]⟩])
 (RC.seq (RC.block 0 (RC.seq (RC.seq (RC.reg [⟨(some 14), .mv (.t 6), none, [6]⟩,
 ⟨(some 15), .un .not (.t 14), none, [14]⟩,
 ⟨(some 13), .mv (.t 15), none, [15]⟩])
 (RC.cond (.t 13)
 (RC.skip)
 (RC.seq (RC.reg [⟨(some 16), .fa 1 (.t 2), none, [2]⟩,
 ⟨(some 17), .ld1 (.t 16), none, [16]⟩,
 ⟨(some 18), .call 120 [(.t 17)], none, [17]⟩,
 ⟨(some 19), .un .not (.t 18), none, [18]⟩,
 ⟨(some 13), .mv (.t 19), none, [19]⟩])
 (RC.cond (.t 13)
 (RC.skip)
 (RC.seq (RC.reg [⟨(some 20), .fa 0 (.t 5), none, [5]⟩,
 ⟨(some 21), .ld1 (.t 20), none, [20]⟩,
 ⟨(some 22), .un .not (.t 21), none, [21]⟩,
 ⟨(some 23), .mv (.t 22), none, [22]⟩,
 ⟨(some 24), .fa 1 (.t 2), (some (23, true)), [2, 23]⟩,
 ⟨(some 25), .ld1 (.t 24), (some (23, true)), [24, 23]⟩,
 ⟨(some 26), .bin (.int .neq) (.t 25) (.c (.int .i64 0)), (some (23, true)), [25, 23]⟩,
 ⟨(some 27), .pick (.t 23) (.t 26) (.c (.bool false)), none, [23, 26]⟩,
 ⟨(some 13), .mv (.t 27), none, [27]⟩])
 (RC.cond (.t 13)
 (RC.skip)
 (RC.seq (RC.reg [⟨(some 28), .fa 1 (.t 5), none, [5]⟩,
 ⟨(some 29), .ld1 (.t 28), none, [28]⟩,
 ⟨(some 30), .un .not (.t 29), none, [29]⟩,
 ⟨(some 31), .mv (.t 30), none, [30]⟩,
 ⟨(some 32), .mv (.t 1), (some (31, true)), [1, 31]⟩,
 ⟨(some 33), .un .not (.t 32), (some (31, true)), [32, 31]⟩,
 ⟨(some 34), .pick (.t 31) (.t 33) (.c (.bool false)), none, [31, 33]⟩,
 ⟨(some 35), .mv (.t 34), none, [34]⟩,
 ⟨(some 36), .fa 2 (.t 2), (some (35, true)), [2, 35]⟩,
 ⟨(some 37), .ld1 (.t 36), (some (35, true)), [36, 35]⟩,
 ⟨(some 38), .bin (.int .neq) (.t 37) (.c (.int .i64 0)), (some (35, true)), [37, 35]⟩,
 ⟨(some 39), .pick (.t 35) (.t 38) (.c (.bool false)), none, [35, 38]⟩,
 ⟨(some 13), .mv (.t 39), none, [39]⟩])
 (RC.cond (.t 13)
 (RC.skip)
 (RC.seq (RC.reg [⟨(some 40), .fa 2 (.t 5), none, [5]⟩,
 ⟨(some 41), .ld1 (.t 40), none, [40]⟩,
 ⟨(some 42), .un .not (.t 41), none, [41]⟩,
 ⟨(some 43), .mv (.t 42), none, [42]⟩,
 ⟨(some 44), .fa 3 (.t 2), (some (43, true)), [2, 43]⟩,
 ⟨(some 45), .ld1 (.t 44), (some (43, true)), [44, 43]⟩,
 ⟨(some 46), .bin (.str .neq) (.t 45) (.c (.str [])), (some (43, true)), [45, 43]⟩,
 ⟨(some 47), .pick (.t 43) (.t 46) (.c (.bool false)), none, [43, 46]⟩,
 ⟨(some 13), .mv (.t 47), none, [47]⟩])
 (RC.cond (.t 13)
 (RC.skip)
 (RC.reg [⟨(some 48), .fa 3 (.t 5), none, [5]⟩,
 ⟨(some 49), .ld1 (.t 48), none, [48]⟩,
 ⟨(some 50), .un .not (.t 49), none, [49]⟩,
 ⟨(some 51), .mv (.t 50), none, [50]⟩,
 ⟨(some 52), .fa 5 (.t 2), (some (51, true)), [2, 51]⟩,
 ⟨(some 53), .ld1 (.t 52), (some (51, true)), [52, 51]⟩,
 ⟨(some 54), .len .slice (.t 53), (some (51, true)), [53, 51]⟩,
 ⟨(some 55), .bin (.int .gtr) (.t 54) (.c (.int .i64 0)), (some (51, true)), [54, 51]⟩,
 ⟨(some 56), .pick (.t 51) (.t 55) (.c (.bool false)), none, [51, 55]⟩,
 ⟨(some 13), .mv (.t 56), none, [56]⟩])))))))))))
 (RC.cond (.t 13)
 (RC.seq (RC.reg [⟨(some 4), .mv (.c (.bool false)), none, []⟩])
 (RC.ret))
 (RC.seq (RC.seq (RC.reg [⟨(some 58), .fa 4 (.t 2), none, [2]⟩,
 ⟨(some 59), .ld1 (.t 58), none, [58]⟩,
 ⟨(some 60), .len .slice (.t 59), none, [59]⟩,
 ⟨(some 61), .fa 4 (.t 5), none, [5]⟩,
 ⟨(some 62), .ldn 2 (.t 61), none, [61]⟩,
 ⟨(some 63), .call 121 [(.t 60), (.t 62)], none, [60, 62]⟩,
 ⟨(some 64), .un .not (.t 63), none, [63]⟩,
 ⟨(some 57), .mv (.t 64), none, [64]⟩])
 (RC.cond (.t 57)
 (RC.skip)
 (RC.seq (RC.reg [⟨(some 65), .fa 6 (.t 2), none, [2]⟩,
 ⟨(some 66), .ld1 (.t 65), none, [65]⟩,
 ⟨(some 67), .len .slice (.t 66), none, [66]⟩,
 ⟨(some 68), .fa 6 (.t 5), none, [5]⟩,
 ⟨(some 69), .ldn 2 (.t 68), none, [68]⟩,
 ⟨(some 70), .call 121 [(.t 67), (.t 69)], none, [67, 69]⟩,
 ⟨(some 71), .un .not (.t 70), none, [70]⟩,
 ⟨(some 57), .mv (.t 71), none, [71]⟩])
 (RC.cond (.t 57)
 (RC.skip)
 (RC.reg [⟨(some 72), .fa 2 (.t 2), none, [2]⟩,
 ⟨(some 73), .ld1 (.t 72), none, [72]⟩,
 ⟨(some 74), .call 120 [(.t 73)], none, [73]⟩,
 ⟨(some 75), .un .not (.t 74), none, [74]⟩,
 ⟨(some 57), .mv (.t 75), none, [75]⟩])))))
 (RC.cond (.t 57)
 (RC.seq (RC.reg [⟨(some 4), .mv (.c (.bool false)), none, []⟩])
 (RC.ret))
 (RC.seq (RC.seq (RC.reg [⟨(some 77), .fa 0 (.t 2), none, [2]⟩,
 ⟨(some 78), .ld1 (.t 77), none, [77]⟩,
 ⟨(some 79), .bin (.int .eql) (.t 78) (.c (.int .i64 5)), none, [78]⟩,
 ⟨(some 80), .mv (.t 79), none, [79]⟩,
 ⟨(some 81), .fa 2 (.t 2), (some (80, true)), [2, 80]⟩,
 ⟨(some 82), .ld1 (.t 81), (some (80, true)), [81, 80]⟩,
 ⟨(some 83), .bin (.int .geq) (.t 82) (.c (.int .i64 1024)), (some (80, true)), [82, 80]⟩,
 ⟨(some 84), .pick (.t 80) (.t 83) (.c (.bool false)), none, [80, 83]⟩,
 ⟨(some 76), .mv (.t 84), none, [84]⟩])
 (RC.cond (.t 76)
 (RC.skip)
 (RC.seq (RC.draw [⟨(some 85), .fa 0 (.t 2), none, [2]⟩,
 ⟨(some 86), .ld1 (.t 85), none, [85]⟩,
 ⟨(some 87), .bin (.int .eql) (.t 86) (.c (.int .i64 3)), none, [86]⟩,
 ⟨(some 88), .mv (.t 87), none, [87]⟩,
 ⟨(some 90), .fa 3 (.t 2), (some (88, true)), [2, 88]⟩,
 ⟨(some 91), .ld1 (.t 90), (some (88, true)), [90, 88]⟩,
 ⟨(some 93), .fa 4 (.t 2), (some (88, true)), [2, 88]⟩,
 ⟨(some 94), .ld1 (.t 93), (some (88, true)), [93, 88]⟩,
 ⟨(some 95), .len .slice (.t 94), (some (88, true)), [94, 88]⟩,
 ⟨(some 89), .call 122 [], (some (88, true)), [88]⟩,
 ⟨(some 92), .look .str (.int .i64 0) false (.t 89) (.t 91), (some (88, true)), [89, 91, 88]⟩,
 ⟨(some 96), .bin (.int .neq) (.t 92) (.t 95), (some (88, true)), [92, 95, 88]⟩,
 ⟨(some 97), .pick (.t 88) (.t 96) (.c (.bool false)), none, [88, 96]⟩,
 ⟨(some 76), .mv (.t 97), none, [97]⟩] [(1, [9]), (5, [9, 14]), (10, [14]), (7, [9, 14])])
 (RC.cond (.t 76)
 (RC.skip)
 (RC.reg [⟨(some 98), .fa 3 (.t 5), none, [5]⟩,
 ⟨(some 99), .ld1 (.t 98), none, [98]⟩,
 ⟨(some 100), .mv (.t 99), none, [99]⟩,
 ⟨(some 101), .ldn 7 (.t 2), (some (100, true)), [2, 100]⟩,
 ⟨(some 102), .call 123 [(.t 101)], (some (100, true)), [101, 100]⟩,
 ⟨(some 103), .un .not (.t 102), (some (100, true)), [102, 100]⟩,
 ⟨(some 104), .pick (.t 100) (.t 103) (.c (.bool false)), none, [100, 103]⟩,
 ⟨(some 76), .mv (.t 104), none, [104]⟩])))))
 (RC.cond (.t 76)
 (RC.seq (RC.reg [⟨(some 4), .mv (.c (.bool false)), none, []⟩])
 (RC.ret))
 (RC.skip))))))))
 (RC.seq (RC.reg [⟨(some 105), .fa 4 (.t 2), none, [2]⟩,
 ⟨(some 106), .ld1 (.t 105), none, [105]⟩,
 ⟨(some 107), .call 124 [(.t 106), (.c (.func 125 []))], none, [106]⟩,
 ⟨(some 108), .un .not (.t 107), none, [107]⟩,
 ⟨(some 4), .mv (.t 108), none, [108]⟩])
 (RC.ret))))
theorem c61_ok : resK Tryz.prog Tryz.f61.ntmps (Tryz.f61.body.getD .skip) = c61 := by kernel_rfl
theorem c61_res : resR Tryz.prog Tryz.f61.ntmps Tryz.f61.results.toList = [.t 4] := by kernel_rfl
theorem c61_ctr {args : List V} {h : Heap} {K : V → Heap → Prop} (hl : Nat.ble args.length 109 = true) (H : wpC Tryz.prog c61 (RF.ofL args) h fun e r h' => e.ends ∧ ∃ vs, evR r h' [.t 4] = some vs ∧ K (oneOf vs) h') : Ctr Tryz.prog 61 args h K :=
 ctr_of_wp follows namesOk Tryz.func61 (c := Tryz.f61.body.getD .skip) (by kernel_rfl) (by kernel_rfl) hl c61_ok c61_res H
def c62 : RC :=
 RC.seq (RC.reg [⟨(some 4), .mv (.c (.bool false)), none, []⟩])
 (RC.seq (RC.reg [⟨(some 5), .mv (.t 0), none, [0]⟩,
 ⟨(some 6), .mv (.t 1), none, [1]⟩,
 ⟨(some 7), .call 127 [(.t 5), (.t 6)], none, [5, 6]⟩,
 ⟨(some 8), .bin (.int .geq) (.t 7) (.c (.int .i64 0)), none, [7]⟩,
 ⟨(some 4), .mv (.t 8), none, [8]⟩])
 (RC.ret))
theorem c62_ok : resK Tryz.prog Tryz.f62.ntmps (Tryz.f62.body.getD .skip) = c62 := by kernel_rfl
theorem c62_res : resR Tryz.prog Tryz.f62.ntmps Tryz.f62.results.toList = [.t 4] := by kernel_rfl
theorem c62_ctr {args : List V} {h : Heap} {K : V → Heap → Prop} (hl : Nat.ble args.length 9 = true) (H : wpC Tryz.prog c62 (RF.ofL args) h fun e r h' => e.ends ∧ ∃ vs, evR r h' [.t 4] = some vs ∧ K (oneOf vs) h') : Ctr Tryz.prog 62 args h K :=
 ctr_of_wp follows namesOk Tryz.func62 (c := Tryz.f62.body.getD .skip) (by kernel_rfl) (by kernel_rfl) hl c62_ok c62_res H
def c63 : RC :=
 RC.seq (RC.reg [⟨(some 1), .box (.t 0), none, [0]⟩,
 ⟨(some 2), .mv (.c (.bool false)), none, []⟩])
 (RC.seq (RC.reg [⟨(some 3), .ldn 7 (.t 1), none, [1]⟩,
 ⟨(some 4), .call 44 [(.t 3)], none, [3]⟩,
 ⟨(some 5), .un .not (.t 4), none, [4]⟩,
 ⟨(some 2), .mv (.t 5), none, [5]⟩])
 (RC.ret))
theorem c63_ok : resK Tryz.prog Tryz.f63.ntmps (Tryz.f63.body.getD .skip) = c63 := by kernel_rfl
theorem c63_res : resR Tryz.prog Tryz.f63.ntmps Tryz.f63.results.toList = [.t 2] := by kernel_rfl
theorem c63_ctr {args : List V} {h : Heap} {K : V → Heap → Prop} (hl : Nat.ble args.length 6 = true) (H : wpC Tryz.prog c63 (RF.ofL args) h fun e r h' => e.ends ∧ ∃ vs, evR r h' [.t 2] = some vs ∧ K (oneOf vs) h') : Ctr Tryz.prog 63 args h K :=
 ctr_of_wp follows namesOk Tryz.func63 (c := Tryz.f63.body.getD .skip) (by kernel_rfl) (by kernel_rfl) hl c63_ok c63_res H
def c64l1 : RC :=
 RC.seq (RC.reg [⟨(some 14), .bin (.int .lss) (.t 13) (.t 12), none, [13, 12]⟩])
 (RC.seq (RC.cond (.t 14)
 (RC.skip)
 (RC.exit 0))
 (RC.seq (RC.block 1 (RC.seq (RC.reg [⟨(some 15), .mv (.t 13), none, [13]⟩,
 ⟨(some 16), .ia 7 (.t 11) (.t 13), none, [11, 13]⟩,
 ⟨(some 17), .ldn 7 (.t 16), none, [16]⟩,
 ⟨(some 5), .new [(.int .i64 0), (.int .i64 0), (.int .i64 0), (.str []), .nilslice, .nilslice, .nilslice], none, []⟩,
 ⟨(some 4), .mv (.t 15), none, [15]⟩,
 ⟨none, .st 7 (.t 5) (.t 17), none, [5, 17]⟩])
 (RC.seq (RC.seq (RC.reg [⟨(some 18), .mv (.t 4), none, [4]⟩,
 ⟨(some 19), .bin (.int .eql) (.t 18) (.c (.int .i64 1)), none, [18]⟩,
 ⟨(some 20), .mv (.t 19), none, [19]⟩,
 ⟨(some 21), .fa 0 (.t 3), (some (20, true)), [3, 20]⟩,
 ⟨(some 22), .ld1 (.t 21), (some (20, true)), [21, 20]⟩,
 ⟨(some 23), .bin (.int .eql) (.t 22) (.c (.int .i64 2)), (some (20, true)), [22, 20]⟩,
 ⟨(some 24), .mv (.t 23), (some (20, true)), [23, 20]⟩,
 ⟨(some 25), .fa 0 (.t 3), (some (24, false)), [3, 24]⟩,
 ⟨(some 26), .ld1 (.t 25), (some (24, false)), [25, 24]⟩,
 ⟨(some 27), .bin (.int .eql) (.t 26) (.c (.int .i64 11)), (some (24, false)), [26, 24]⟩,
 ⟨(some 28), .pick (.t 24) (.c (.bool true)) (.t 27), (some (20, true)), [24, 27, 20]⟩,
 ⟨(some 29), .pick (.t 20) (.t 28) (.c (.bool false)), none, [20, 28]⟩])
 (RC.cond (.t 29)
 (RC.reg [⟨(some 30), .ld1 (.t 1), none, [1]⟩,
 ⟨(some 31), .fa 1 (.t 3), none, [3]⟩,
 ⟨(some 32), .ld1 (.t 31), none, [31]⟩,
 ⟨(some 33), .bsl 1 1 [(.int .i64 0)] [(0, 1, (.t 32))], none, [32]⟩,
 ⟨(some 34), .app 1 (.t 30) (.t 33), none, [30, 33]⟩,
 ⟨none, .st 1 (.t 1) (.t 34), none, [1, 34]⟩])
 (RC.skip)))
 (RC.reg [⟨(some 35), .ld1 (.t 2), none, [2]⟩,
 ⟨(some 36), .ldn 7 (.t 5), none, [5]⟩,
 ⟨(some 37), .callv (.t 35) [(.t 36)], none, [35, 36]⟩]))))
 (RC.reg [⟨(some 38), .bin (.int .add) (.t 13) (.c (.int .i64 1)), none, [13]⟩,
 ⟨(some 13), .mv (.t 38), none, [38]⟩])))
def c64 : RC :=
 RC.seq (RC.reg [⟨(some 3), .box (.t 0), none, [0]⟩])
 (RC.seq (RC.draw [⟨(some 6), .ld1 (.t 1), none, [1]⟩,
 ⟨(some 7), .ldn 7 (.t 3), none, [3]⟩,
 ⟨(some 8), .call 65 [(.t 7)], none, [7]⟩,
 ⟨(some 9), .app 1 (.t 6) (.t 8), none, [6, 8]⟩,
 ⟨none, .st 1 (.t 1) (.t 9), none, [1, 9]⟩] [(0, [2, 3]), (1, [2])])
 (RC.seq (RC.reg [⟨(some 10), .fa 6 (.t 3), none, [3]⟩,
 ⟨(some 11), .ld1 (.t 10), none, [10]⟩,
 ⟨(some 12), .len .slice (.t 11), none, [11]⟩,
 ⟨(some 13), .mv (.c (.int .i64 0)), none, []⟩])
 (RC.block 0 (RC.loop c64l1))))
theorem c64_ok : resK Tryz.prog Tryz.f64.ntmps (Tryz.f64.body.getD .skip) = c64 := by kernel_rfl
theorem c64_res : resR Tryz.prog Tryz.f64.ntmps Tryz.f64.results.toList = [] := by kernel_rfl
theorem c64_ctr {args : List V} {h : Heap} {K : V → Heap → Prop} (hl : Nat.ble args.length 39 = true) (H : wpC Tryz.prog c64 (RF.ofL args) h fun e r h' => e.ends ∧ ∃ vs, evR r h' [] = some vs ∧ K (oneOf vs) h') : Ctr Tryz.prog 64 args h K :=
 ctr_of_wp follows namesOk Tryz.func64 (c := Tryz.f64.body.getD .skip) (by kernel_rfl) (by kernel_rfl) hl c64_ok c64_res H
def c65l1 : RC :=
 RC.seq (RC.reg [⟨(some 26), .bin (.int .lss) (.t 25) (.t 24), none, [25, 24]⟩])
 (RC.seq (RC.cond (.t 26)
 (RC.skip)
 (RC.exit 1))
 (RC.seq (RC.block 2 (RC.seq (RC.reg [⟨(some 27), .ia 7 (.t 23) (.t 25), none, [23, 25]⟩,
 ⟨(some 28), .ldn 7 (.t 27), none, [27]⟩,
 ⟨(some 5), .new [(.int .i64 0), (.int .i64 0), (.int .i64 0), (.str []), .nilslice, .nilslice, .nilslice], none, []⟩,
 ⟨none, .st 7 (.t 5) (.t 28), none, [5, 28]⟩])
 (RC.reg [⟨(some 29), .mv (.t 3), none, [3]⟩,
 ⟨(some 30), .fa 2 (.t 5), none, [5]⟩,
 ⟨(some 31), .ld1 (.t 30), none, [30]⟩,
 ⟨(some 32), .bsl 1 1 [(.int .i64 0)] [(0, 1, (.t 31))], none, [31]⟩,
 ⟨(some 33), .app 1 (.t 29) (.t 32), none, [29, 32]⟩,
 ⟨(some 3), .mv (.t 33), none, [33]⟩])))
 (RC.reg [⟨(some 34), .bin (.int .add) (.t 25) (.c (.int .i64 1)), none, [25]⟩,
 ⟨(some 25), .mv (.t 34), none, [34]⟩])))
def c65l2 : RC :=
 RC.seq (RC.reg [⟨(some 42), .bin (.int .lss) (.t 41) (.t 40), none, [41, 40]⟩])
 (RC.seq (RC.cond (.t 42)
 (RC.skip)
 (RC.exit 3))
 (RC.seq (RC.block 4 (RC.seq (RC.reg [⟨(some 43), .mv (.t 41), none, [41]⟩,
 ⟨(some 7), .mv (.t 43), none, [43]⟩])
 (RC.reg [⟨(some 44), .mv (.t 6), none, [6]⟩,
 ⟨(some 45), .fa 1 (.t 1), none, [1]⟩,
 ⟨(some 46), .ld1 (.t 45), none, [45]⟩,
 ⟨(some 47), .mv (.t 7), none, [7]⟩,
 ⟨(some 48), .bin (.int .add) (.t 46) (.t 47), none, [46, 47]⟩,
 ⟨(some 49), .bsl 1 1 [(.int .i64 0)] [(0, 1, (.t 48))], none, [48]⟩,
 ⟨(some 50), .app 1 (.t 44) (.t 49), none, [44, 49]⟩,
 ⟨(some 6), .mv (.t 50), none, [50]⟩])))
 (RC.reg [⟨(some 51), .bin (.int .add) (.t 41) (.c (.int .i64 1)), none, [41]⟩,
 ⟨(some 41), .mv (.t 51), none, [51]⟩])))
def c65 : RC :=
 RC.seq (RC.reg [⟨(some 1), .box (.t 0), none, [0]⟩,
 ⟨(some 2), .mv (.c .nilslice), none, []⟩])
 (RC.seq (RC.seq (RC.reg [⟨(some 8), .fa 0 (.t 1), none, [1]⟩,
 ⟨(some 9), .ld1 (.t 8), none, [8]⟩])
 (RC.block 0 (RC.seq (RC.reg [⟨(some 11), .bin (.int .eql) (.t 9) (.c (.int .i64 7)), none, [9]⟩,
 ⟨(some 10), .mv (.t 11), none, [11]⟩])
 (RC.cond (.t 10)
 (RC.seq (RC.reg [⟨(some 12), .fa 1 (.t 1), none, [1]⟩,
 ⟨(some 13), .ld1 (.t 12), none, [12]⟩,
 ⟨(some 14), .bsl 1 1 [(.int .i64 0)] [(0, 1, (.t 13))], none, [13]⟩,
 ⟨(some 2), .mv (.t 14), none, [14]⟩])
 (RC.ret))
 (RC.seq (RC.reg [⟨(some 16), .bin (.int .eql) (.t 9) (.c (.int .i64 8)), none, [9]⟩,
 ⟨(some 15), .mv (.t 16), none, [16]⟩])
 (RC.cond (.t 15)
 (RC.seq (RC.reg [⟨(some 3), .mv (.c .nilslice), none, []⟩])
 (RC.seq (RC.seq (RC.reg [⟨(some 17), .fa 6 (.t 1), none, [1]⟩,
 ⟨(some 18), .ld1 (.t 17), none, [17]⟩,
 ⟨(some 19), .fa 6 (.t 1), none, [1]⟩,
 ⟨(some 20), .ld1 (.t 19), none, [19]⟩,
 ⟨(some 21), .len .slice (.t 20), none, [20]⟩,
 ⟨(some 22), .bin (.int .sub) (.t 21) (.c (.int .i64 1)), none, [21]⟩,
 ⟨(some 23), .sl 7 (.t 18) none (some (.t 22)) none, none, [18, 22]⟩,
 ⟨(some 24), .len .slice (.t 23), none, [23]⟩,
 ⟨(some 25), .mv (.c (.int .i64 0)), none, []⟩])
 (RC.block 1 (RC.loop c65l1)))
 (RC.seq (RC.reg [⟨(some 35), .mv (.t 3), none, [3]⟩,
 ⟨(some 2), .mv (.t 35), none, [35]⟩])
 (RC.ret))))
 (RC.seq (RC.reg [⟨(some 37), .bin (.int .eql) (.t 9) (.c (.int .i64 14)), none, [9]⟩,
 ⟨(some 36), .mv (.t 37), none, [37]⟩])
 (RC.cond (.t 36)
 (RC.seq (RC.reg [⟨(some 6), .mv (.c .nilslice), none, []⟩])
 (RC.seq (RC.seq (RC.reg [⟨(some 38), .fa 5 (.t 1), none, [1]⟩,
 ⟨(some 39), .ld1 (.t 38), none, [38]⟩,
 ⟨(some 40), .len .slice (.t 39), none, [39]⟩,
 ⟨(some 41), .mv (.c (.int .i64 0)), none, []⟩])
 (RC.block 3 (RC.loop c65l2)))
 (RC.seq (RC.reg [⟨(some 52), .mv (.t 6), none, [6]⟩,
 ⟨(some 2), .mv (.t 52), none, [52]⟩])
 (RC.ret))))
 (RC.skip)))))))))
 (RC.seq (RC.reg [⟨(some 2), .mv (.c .nilslice), none, []⟩])
 (RC.ret)))
theorem c65_ok : resK Tryz.prog Tryz.f65.ntmps (Tryz.f65.body.getD .skip) = c65 := by kernel_rfl
theorem c65_res : resR Tryz.prog Tryz.f65.ntmps Tryz.f65.results.toList = [.t 2] := by kernel_rfl
theorem c65_ctr {args : List V} {h : Heap} {K : V → Heap → Prop} (hl : Nat.ble args.length 53 = true) (H : wpC Tryz.prog c65 (RF.ofL args) h fun e r h' => e.ends ∧ ∃ vs, evR r h' [.t 2] = some vs ∧ K (oneOf vs) h') : Ctr Tryz.prog 65 args h K :=
 ctr_of_wp follows namesOk Tryz.func65 (c := Tryz.f65.body.getD .skip) (by kernel_rfl) (by kernel_rfl) hl c65_ok c65_res H
def c66l1 : RC :=
 RC.seq (RC.reg [⟨(some 19), .bin (.int .lss) (.t 18) (.t 17), none, [18, 17]⟩])
 (RC.seq (RC.cond (.t 19)
 (RC.skip)
 (RC.exit 0))
 (RC.seq (RC.block 1 (RC.seq (RC.reg [⟨(some 20), .ia 3 (.t 16) (.t 18), none, [16, 18]⟩,
 ⟨(some 21), .ldn 3 (.t 20), none, [20]⟩,
 ⟨(some 6), .new [(.int .i64 0), (.int .i64 0), (.str [])], none, []⟩,
 ⟨none, .st 3 (.t 6) (.t 21), none, [6, 21]⟩])
 (RC.seq (RC.reg [⟨(some 22), .fa 0 (.t 6), none, [6]⟩,
 ⟨(some 23), .ld1 (.t 22), none, [22]⟩,
 ⟨(some 24), .bin (.int .eql) (.t 23) (.c (.int .i64 1)), none, [23]⟩,
 ⟨(some 25), .mv (.t 24), none, [24]⟩,
 ⟨(some 26), .ld1 (.t 1), (some (25, true)), [1, 25]⟩,
 ⟨(some 27), .fa 1 (.t 6), (some (25, true)), [6, 25]⟩,
 ⟨(some 28), .ld1 (.t 27), (some (25, true)), [27, 25]⟩,
 ⟨(some 29), .look .int (.int .i64 0) false (.t 26) (.t 28), (some (25, true)), [26, 28, 25]⟩,
 ⟨(some 30), .bin (.int .eql) (.t 29) (.c (.int .i64 0)), (some (25, true)), [29, 25]⟩,
 ⟨(some 31), .pick (.t 25) (.t 30) (.c (.bool false)), none, [25, 30]⟩])
 (RC.cond (.t 31)
 (RC.reg [⟨(some 32), .ld1 (.t 2), none, [2]⟩,
 ⟨(some 33), .fa 1 (.t 6), none, [6]⟩,
 ⟨(some 34), .ld1 (.t 33), none, [33]⟩,
 ⟨none, .upd .int (.t 32) (.t 34) (.c (.bool true)), none, [32, 34]⟩])
 (RC.skip)))))
 (RC.reg [⟨(some 35), .bin (.int .add) (.t 18) (.c (.int .i64 1)), none, [18]⟩,
 ⟨(some 18), .mv (.t 35), none, [35]⟩])))
def c66l2 : RC :=
 RC.seq (RC.reg [⟨(some 41), .bin (.int .lss) (.t 40) (.t 39), none, [40, 39]⟩])
 (RC.seq (RC.cond (.t 41)
 (RC.skip)
 (RC.exit 2))
 (RC.seq (RC.block 3 (RC.seq (RC.reg [⟨(some 42), .ia 1 (.t 38) (.t 40), none, [38, 40]⟩,
 ⟨(some 43), .ld1 (.t 42), none, [42]⟩,
 ⟨(some 9), .mv (.t 43), none, [43]⟩])
 (RC.reg [⟨(some 44), .ld1 (.t 1), none, [1]⟩,
 ⟨(some 45), .mv (.t 9), none, [9]⟩,
 ⟨(some 46), .look .int (.int .i64 0) false (.t 44) (.t 45), none, [44, 45]⟩,
 ⟨(some 47), .bin (.int .add) (.t 46) (.c (.int .i64 1)), none, [46]⟩,
 ⟨none, .upd .int (.t 44) (.t 45) (.t 47), none, [44, 45, 47]⟩])))
 (RC.reg [⟨(some 48), .bin (.int .add) (.t 40) (.c (.int .i64 1)), none, [40]⟩,
 ⟨(some 40), .mv (.t 48), none, [48]⟩])))
def c66l3 : RC :=
 RC.seq (RC.reg [⟨(some 53), .bin (.int .lss) (.t 52) (.t 51), none, [52, 51]⟩])
 (RC.seq (RC.cond (.t 53)
 (RC.skip)
 (RC.exit 4))
 (RC.seq (RC.block 5 (RC.seq (RC.reg [⟨(some 54), .mv (.t 52), none, [52]⟩,
 ⟨(some 55), .ia 7 (.t 50) (.t 52), none, [50, 52]⟩,
 ⟨(some 56), .ldn 7 (.t 55), none, [55]⟩,
 ⟨(some 11), .new [(.int .i64 0), (.int .i64 0), (.int .i64 0), (.str []), .nilslice, .nilslice, .nilslice], none, []⟩,
 ⟨(some 10), .mv (.t 54), none, [54]⟩,
 ⟨none, .st 7 (.t 11) (.t 56), none, [11, 56]⟩])
 (RC.seq (RC.reg [⟨(some 57), .mv (.t 10), none, [10]⟩,
 ⟨(some 58), .bin (.int .eql) (.t 57) (.c (.int .i64 1)), none, [57]⟩,
 ⟨(some 59), .mv (.t 58), none, [58]⟩,
 ⟨(some 60), .fa 0 (.t 4), (some (59, true)), [4, 59]⟩,
 ⟨(some 61), .ld1 (.t 60), (some (59, true)), [60, 59]⟩,
 ⟨(some 62), .bin (.int .eql) (.t 61) (.c (.int .i64 2)), (some (59, true)), [61, 59]⟩,
 ⟨(some 63), .mv (.t 62), (some (59, true)), [62, 59]⟩,
 ⟨(some 64), .fa 0 (.t 4), (some (63, false)), [4, 63]⟩,
 ⟨(some 65), .ld1 (.t 64), (some (63, false)), [64, 63]⟩,
 ⟨(some 66), .bin (.int .eql) (.t 65) (.c (.int .i64 11)), (some (63, false)), [65, 63]⟩,
 ⟨(some 67), .pick (.t 63) (.c (.bool true)) (.t 66), (some (59, true)), [63, 66, 59]⟩,
 ⟨(some 68), .pick (.t 59) (.t 67) (.c (.bool false)), none, [59, 67]⟩,
 ⟨(some 12), .mv (.t 68), none, [68]⟩])
 (RC.seq (RC.seq (RC.reg [⟨(some 69), .mv (.t 12), none, [12]⟩])
 (RC.cond (.t 69)
 (RC.reg [⟨(some 70), .ld1 (.t 1), none, [1]⟩,
 ⟨(some 71), .fa 1 (.t 4), none, [4]⟩,
 ⟨(some 72), .ld1 (.t 71), none, [71]⟩,
 ⟨(some 73), .look .int (.int .i64 0) false (.t 70) (.t 72), none, [70, 72]⟩,
 ⟨(some 74), .bin (.int .add) (.t 73) (.c (.int .i64 1)), none, [73]⟩,
 ⟨none, .upd .int (.t 70) (.t 72) (.t 74), none, [70, 72, 74]⟩])
 (RC.skip)))
 (RC.seq (RC.reg [⟨(some 75), .ld1 (.t 3), none, [3]⟩,
 ⟨(some 76), .ldn 7 (.t 11), none, [11]⟩,
 ⟨(some 77), .callv (.t 75) [(.t 76)], none, [75, 76]⟩])
 (RC.seq (RC.reg [⟨(some 78), .mv (.t 12), none, [12]⟩])
 (RC.cond (.t 78)
 (RC.reg [⟨(some 79), .ld1 (.t 1), none, [1]⟩,
 ⟨(some 80), .fa 1 (.t 4), none, [4]⟩,
 ⟨(some 81), .ld1 (.t 80), none, [80]⟩,
 ⟨(some 82), .look .int (.int .i64 0) false (.t 79) (.t 81), none, [79, 81]⟩,
 ⟨(some 83), .bin (.int .sub) (.t 82) (.c (.int .i64 1)), none, [82]⟩,
 ⟨none, .upd .int (.t 79) (.t 81) (.t 83), none, [79, 81, 83]⟩])
 (RC.skip))))))))
 (RC.reg [⟨(some 84), .bin (.int .add) (.t 52) (.c (.int .i64 1)), none, [52]⟩,
 ⟨(some 52), .mv (.t 84), none, [84]⟩])))
def c66l4 : RC :=
 RC.seq (RC.reg [⟨(some 88), .bin (.int .lss) (.t 87) (.t 86), none, [87, 86]⟩])
 (RC.seq (RC.cond (.t 88)
 (RC.skip)
 (RC.exit 6))
 (RC.seq (RC.block 7 (RC.seq (RC.reg [⟨(some 89), .ia 1 (.t 85) (.t 87), none, [85, 87]⟩,
 ⟨(some 90), .ld1 (.t 89), none, [89]⟩,
 ⟨(some 14), .mv (.t 90), none, [90]⟩])
 (RC.reg [⟨(some 91), .ld1 (.t 1), none, [1]⟩,
 ⟨(some 92), .mv (.t 14), none, [14]⟩,
 ⟨(some 93), .look .int (.int .i64 0) false (.t 91) (.t 92), none, [91, 92]⟩,
 ⟨(some 94), .bin (.int .sub) (.t 93) (.c (.int .i64 1)), none, [93]⟩,
 ⟨none, .upd .int (.t 91) (.t 92) (.t 94), none, [91, 92, 94]⟩])))
 (RC.reg [⟨(some 95), .bin (.int .add) (.t 87) (.c (.int .i64 1)), none, [87]⟩,
 ⟨(some 87), .mv (.t 95), none, [95]⟩])))
def c66 : RC :=
 RC.seq (RC.reg [⟨(some 4), .box (.t 0), none, [0]⟩])
 (RC.seq (RC.seq (RC.reg [⟨(some 15), .fa 4 (.t 4), none, [4]⟩,
 ⟨(some 16), .ld1 (.t 15), none, [15]⟩,
 ⟨(some 17), .len .slice (.t 16), none, [16]⟩,
 ⟨(some 18), .mv (.c (.int .i64 0)), none, []⟩])
 (RC.block 0 (RC.loop c66l1)))
 (RC.seq (RC.reg [⟨(some 36), .ldn 7 (.t 4), none, [4]⟩,
 ⟨(some 37), .call 65 [(.t 36)], none, [36]⟩,
 ⟨(some 7), .mv (.t 37), none, [37]⟩])
 (RC.seq (RC.seq (RC.reg [⟨(some 38), .mv (.t 7), none, [7]⟩,
 ⟨(some 39), .len .slice (.t 38), none, [38]⟩,
 ⟨(some 40), .mv (.c (.int .i64 0)), none, []⟩])
 (RC.block 2 (RC.loop c66l2)))
 (RC.seq (RC.seq (RC.reg [⟨(some 49), .fa 6 (.t 4), none, [4]⟩,
 ⟨(some 50), .ld1 (.t 49), none, [49]⟩,
 ⟨(some 51), .len .slice (.t 50), none, [50]⟩,
 ⟨(some 52), .mv (.c (.int .i64 0)), none, []⟩])
 (RC.block 4 (RC.loop c66l3)))
 (RC.seq (RC.reg [⟨(some 85), .mv (.t 7), none, [7]⟩,
 ⟨(some 86), .len .slice (.t 85), none, [85]⟩,
 ⟨(some 87), .mv (.c (.int .i64 0)), none, []⟩])
 (RC.block 6 (RC.loop c66l4)))))))
theorem c66_ok : resK Tryz.prog Tryz.f66.ntmps (Tryz.f66.body.getD .skip) = c66 := by kernel_rfl
theorem c66_res : resR Tryz.prog Tryz.f66.ntmps Tryz.f66.results.toList = [] := by kernel_rfl
theorem c66_ctr {args : List V} {h : Heap} {K : V → Heap → Prop} (hl : Nat.ble args.length 96 = true) (H : wpC Tryz.prog c66 (RF.ofL args) h fun e r h' => e.ends ∧ ∃ vs, evR r h' [] = some vs ∧ K (oneOf vs) h') : Ctr Tryz.prog 66 args h K :=
 ctr_of_wp follows namesOk Tryz.func66 (c := Tryz.f66.body.getD .skip) (by kernel_rfl) (by kernel_rfl) hl c66_ok c66_res H
def c75 : RC :=
 RC.seq (RC.reg [⟨(some 2), .mv (.c .nilslice), none, []⟩])
 (RC.seq (RC.seq (RC.reg [⟨(some 3), .mv (.t 0), none, [0]⟩,
 ⟨(some 4), .bin (.eqn false 2) (.t 3) (.c .nilslice), none, [3]⟩])
 (RC.cond (.t 4)
 (RC.seq (RC.reg [⟨(some 2), .mv (.c .nilslice), none, []⟩])
 (RC.ret))
 (RC.skip)))
 (RC.seq (RC.reg [⟨(some 5), .bsl 0 1 [(.int .i64 0)] [], none, []⟩,
 ⟨(some 6), .mv (.t 0), none, [0]⟩,
 ⟨(some 7), .app 1 (.t 5) (.t 6), none, [5, 6]⟩,
 ⟨(some 2), .mv (.t 7), none, [7]⟩])
 (RC.ret)))
theorem c75_ok : resK Tryz.prog Tryz.f75.ntmps (Tryz.f75.body.getD .skip) = c75 := by kernel_rfl
theorem c75_res : resR Tryz.prog Tryz.f75.ntmps Tryz.f75.results.toList = [.t 2] := by kernel_rfl
theorem c75_ctr {args : List V} {h : Heap} {K : V → Heap → Prop} (hl : Nat.ble args.length 8 = true) (H : wpC Tryz.prog c75 (RF.ofL args) h fun e r h' => e.ends ∧ ∃ vs, evR r h' [.t 2] = some vs ∧ K (oneOf vs) h') : Ctr Tryz.prog 75 args h K :=
 ctr_of_wp follows namesOk Tryz.func75 (c := Tryz.f75.body.getD .skip) (by kernel_rfl) (by kernel_rfl) hl c75_ok c75_res H
def c119 : RC :=
 RC.seq (RC.reg [⟨(some 2), .new [(.bool false), (.bool false), (.bool false), (.bool false), (.int .i64 0), (.int .i64 0), (.int .i64 0), (.int .i64 0)], none, []⟩,
 ⟨(some 3), .mv (.c (.bool false)), none, []⟩])
 (RC.seq (RC.reg [⟨(some 5), .build [(.int .i64 0), (.int .i64 0)] [(0, 1, (.c (.int .i64 1))), (1, 1, (.c (.int .i64 1)))], none, []⟩,
 ⟨(some 6), .build [(.bool false), (.bool false), (.bool false), (.bool false), (.int .i64 0), (.int .i64 0), (.int .i64 0), (.int .i64 0)] [(4, 2, (.t 5))], none, [5]⟩,
 ⟨(some 7), .build [(.int .i64 0), (.int .i64 0)] [(0, 1, (.c (.int .i64 1))), (1, 1, (.c (.int .i64 1)))], none, []⟩,
 ⟨(some 8), .build [(.bool false), (.bool false), (.bool false), (.bool false), (.int .i64 0), (.int .i64 0), (.int .i64 0), (.int .i64 0)] [(4, 2, (.t 7))], none, [7]⟩,
 ⟨(some 9), .build [(.int .i64 0), (.int .i64 0)] [(0, 1, (.c (.int .i64 2))), (1, 1, (.c (.int .i64 2)))], none, []⟩,
 ⟨(some 10), .build [(.bool false), (.bool false), (.bool false), (.bool false), (.int .i64 0), (.int .i64 0), (.int .i64 0), (.int .i64 0)] [(0, 1, (.c (.bool true))), (6, 2, (.t 9))], none, [9]⟩,
 ⟨(some 11), .build [(.int .i64 0), (.int .i64 0)] [(0, 1, (.c (.int .i64 2))), (1, 1, (.c (.int .i64 2)))], none, []⟩,
 ⟨(some 12), .build [(.bool false), (.bool false), (.bool false), (.bool false), (.int .i64 0), (.int .i64 0), (.int .i64 0), (.int .i64 0)] [(0, 1, (.c (.bool true))), (6, 2, (.t 11))], none, [11]⟩,
 ⟨(some 13), .build [(.int .i64 0), (.int .i64 0)] [(0, 1, (.c (.int .i64 1))), (1, 1, (.c (.int .i64 3)))], none, []⟩,
 ⟨(some 14), .build [(.bool false), (.bool false), (.bool false), (.bool false), (.int .i64 0), (.int .i64 0), (.int .i64 0), (.int .i64 0)] [(2, 1, (.c (.bool true))), (4, 2, (.t 13))], none, [13]⟩,
 ⟨(some 15), .build [(.int .i64 0), (.int .i64 0)] [(0, 1, (.c (.int .i64 0))), (1, 1, (.c (.int .i64 1024)))], none, []⟩,
 ⟨(some 16), .build [(.bool false), (.bool false), (.bool false), (.bool false), (.int .i64 0), (.int .i64 0), (.int .i64 0), (.int .i64 0)] [(1, 1, (.c (.bool true))), (4, 2, (.t 15))], none, [15]⟩,
 ⟨(some 17), .build [(.int .i64 0), (.int .i64 0)] [(0, 1, (.c (.int .i64 1))), (1, 1, (.c (.int .i64 1)))], none, []⟩,
 ⟨(some 18), .build [(.bool false), (.bool false), (.bool false), (.bool false), (.int .i64 0), (.int .i64 0), (.int .i64 0), (.int .i64 0)] [(1, 1, (.c (.bool true))), (4, 2, (.t 17))], none, [17]⟩,
 ⟨(some 19), .build [(.int .i64 0), (.int .i64 0)] [(0, 1, (.c (.int .i64 2))), (1, 1, (.c (.int .i64 2)))], none, []⟩,
 ⟨(some 20), .build [(.bool false), (.bool false), (.bool false), (.bool false), (.int .i64 0), (.int .i64 0), (.int .i64 0), (.int .i64 0)] [(4, 2, (.t 19))], none, [19]⟩,
 ⟨(some 21), .build [(.int .i64 0), (.int .i64 0)] [(0, 1, (.c (.int .i64 1))), (1, 1, (.c (.int .i64 1)))], none, []⟩,
 ⟨(some 22), .build [(.bool false), (.bool false), (.bool false), (.bool false), (.int .i64 0), (.int .i64 0), (.int .i64 0), (.int .i64 0)] [(0, 1, (.c (.bool true))), (6, 2, (.t 21))], none, [21]⟩,
 ⟨(some 23), .build [(.int .i64 0), (.int .i64 0)] [(0, 1, (.c (.int .i64 1))), (1, 1, (.c (.int .i64 1)))], none, []⟩,
 ⟨(some 24), .build [(.int .i64 0), (.int .i64 0)] [(0, 1, (.c (.int .i64 1))), (1, 1, (.c (.int .i64 1073741824)))], none, []⟩,
 ⟨(some 25), .build [(.bool false), (.bool false), (.bool false), (.bool false), (.int .i64 0), (.int .i64 0), (.int .i64 0), (.int .i64 0)] [(3, 1, (.c (.bool true))), (4, 2, (.t 23)), (6, 2, (.t 24))], none, [23, 24]⟩,
 ⟨(some 26), .build [(.int .i64 0), (.int .i64 0)] [(0, 1, (.c (.int .i64 1))), (1, 1, (.c (.int .i64 1)))], none, []⟩,
 ⟨(some 27), .build [(.int .i64 0), (.int .i64 0)] [(0, 1, (.c (.int .i64 1))), (1, 1, (.c (.int .i64 1073741824)))], none, []⟩,
 ⟨(some 28), .build [(.bool false), (.bool false), (.bool false), (.bool false), (.int .i64 0), (.int .i64 0), (.int .i64 0), (.int .i64 0)] [(3, 1, (.c (.bool true))), (4, 2, (.t 26)), (6, 2, (.t 27))], none, [26, 27]⟩,
 ⟨(some 29), .build [(.bool false), (.bool false), (.bool false), (.bool false), (.int .i64 0), (.int .i64 0), (.int .i64 0), (.int .i64 0), (.bool false), (.bool false), (.bool false), (.bool false), (.int .i64 0), (.int .i64 0), (.int .i64 0), (.int .i64 0), (.bool false), (.bool false), (.bool false), (.bool false), (.int .i64 0), (.int .i64 0), (.int .i64 0), (.int .i64 0), (.bool false), (.bool false), (.bool false), (.bool false), (.int .i64 0), (.int .i64 0), (.int .i64 0), (.int .i64 0), (.bool false), (.bool false), (.bool false), (.bool false), (.int .i64 0), (.int .i64 0), (.int .i64 0), (.int .i64 0), (.bool false), (.bool false), (.bool false), (.bool false), (.int .i64 0), (.int .i64 0), (.int .i64 0), (.int .i64 0), (.bool false), (.bool false), (.bool false), (.bool false), (.int .i64 0), (.int .i64 0), (.int .i64 0), (.int .i64 0), (.bool false), (.bool false), (.bool false), (.bool false), (.int .i64 0), (.int .i64 0), (.int .i64 0), (.int .i64 0), (.bool false), (.bool false), (.bool false), (.bool false), (.int .i64 0), (.int .i64 0), (.int .i64 0), (.int .i64 0), (.bool false), (.bool false), (.bool false), (.bool false), (.int .i64 0), (.int .i64 0), (.int .i64 0), (.int .i64 0), (.bool false), (.bool false), (.bool false), (.bool false), (.int .i64 0), (.int .i64 0), (.int .i64 0), (.int .i64 0), (.bool false), (.bool false), (.bool false), (.bool false), (.int .i64 0), (.int .i64 0), (.int .i64 0), (.int .i64 0), (.bool false), (.bool false), (.bool false), (.bool false), (.int .i64 0), (.int .i64 0), (.int .i64 0), (.int .i64 0)] [(8, 8, (.t 6)), (96, 8, (.t 8)), (16, 8, (.t 10)), (88, 8, (.t 12)), (24, 8, (.t 14)), (32, 8, (.t 16)), (40, 8, (.t 18)), (48, 8, (.t 20)), (56, 8, (.t 22)), (72, 8, (.t 25)), (80, 8, (.t 28))], none, [6, 8, 10, 12, 14, 16, 18, 20, 22, 25, 28]⟩,
 ⟨(some 4), .new [(.bool false), (.bool false), (.bool false), (.bool false), (.int .i64 0), (.int .i64 0), (.int .i64 0), (.int .i64 0), (.bool false), (.bool false), (.bool false), (.bool false), (.int .i64 0), (.int .i64 0), (.int .i64 0), (.int .i64 0), (.bool false), (.bool false), (.bool false), (.bool false), (.int .i64 0), (.int .i64 0), (.int .i64 0), (.int .i64 0), (.bool false), (.bool false), (.bool false), (.bool false), (.int .i64 0), (.int .i64 0), (.int .i64 0), (.int .i64 0), (.bool false), (.bool false), (.bool false), (.bool false), (.int .i64 0), (.int .i64 0), (.int .i64 0), (.int .i64 0), (.bool false), (.bool false), (.bool false), (.bool false), (.int .i64 0), (.int .i64 0), (.int .i64 0), (.int .i64 0), (.bool false), (.bool false), (.bool false), (.bool false), (.int .i64 0), (.int .i64 0), (.int .i64 0), (.int .i64 0), (.bool false), (.bool false), (.bool false), (.bool false), (.int .i64 0), (.int .i64 0), (.int .i64 0), (.int .i64 0), (.bool false), (.bool false), (.bool false), (.bool false), (.int .i64 0), (.int .i64 0), (.int .i64 0), (.int .i64 0), (.bool false), (.bool false), (.bool false), (.bool false), (.int .i64 0), (.int .i64 0), (.int .i64 0), (.int .i64 0), (.bool false), (.bool false), (.bool false), (.bool false), (.int .i64 0), (.int .i64 0), (.int .i64 0), (.int .i64 0), (.bool false), (.bool false), (.bool false), (.bool false), (.int .i64 0), (.int .i64 0), (.int .i64 0), (.int .i64 0), (.bool false), (.bool false), (.bool false), (.bool false), (.int .i64 0), (.int .i64 0), (.int .i64 0), (.int .i64 0)], none, []⟩,
 ⟨none, .st 104 (.t 4) (.t 29), none, [4, 29]⟩])
 (RC.seq (RC.seq (RC.reg [⟨(some 30), .mv (.t 0), none, [0]⟩,
 ⟨(some 31), .bin (.int .leq) (.t 30) (.c (.int .i64 0)), none, [30]⟩,
 ⟨(some 32), .mv (.t 31), none, [31]⟩,
 ⟨(some 33), .mv (.t 0), (some (32, false)), [0, 32]⟩,
 ⟨(some 34), .bin (.int .geq) (.t 33) (.c (.int .i64 13)), (some (32, false)), [33, 32]⟩,
 ⟨(some 35), .pick (.t 32) (.c (.bool true)) (.t 34), none, [32, 34]⟩,
 ⟨(some 36), .mv (.t 35), none, [35]⟩,
 ⟨(some 37), .mv (.t 0), (some (36, false)), [0, 36]⟩,
 ⟨(some 38), .bin (.int .eql) (.t 37) (.c (.int .i64 8)), (some (36, false)), [37, 36]⟩,
 ⟨(some 39), .pick (.t 36) (.c (.bool true)) (.t 38), none, [36, 38]⟩])
 (RC.cond (.t 39)
 (RC.seq (RC.reg [⟨(some 40), .build [(.bool false), (.bool false), (.bool false), (.bool false), (.int .i64 0), (.int .i64 0), (.int .i64 0), (.int .i64 0)] [], none, []⟩,
 ⟨none, .st 8 (.t 2) (.t 40), none, [2, 40]⟩,
 ⟨(some 3), .mv (.c (.bool false)), none, []⟩])
 (RC.ret))
 (RC.skip)))
 (RC.seq (RC.reg [⟨(some 41), .mv (.t 0), none, [0]⟩,
 ⟨(some 42), .iaa 13 8 (.t 4) (.t 41), none, [4, 41]⟩,
 ⟨(some 43), .ldn 8 (.t 42), none, [42]⟩,
 ⟨none, .st 8 (.t 2) (.t 43), none, [2, 43]⟩,
 ⟨(some 3), .mv (.c (.bool true)), none, []⟩])
 (RC.ret))))
theorem c119_ok : resK Tryz.prog Tryz.f119.ntmps (Tryz.f119.body.getD .skip) = c119 := by kernel_rfl
theorem c119_res : resR Tryz.prog Tryz.f119.ntmps Tryz.f119.results.toList = [.cn 2 8, .t 3] := by kernel_rfl
theorem c119_ctr {args : List V} {h : Heap} {K : V → Heap → Prop} (hl : Nat.ble args.length 44 = true) (H : wpC Tryz.prog c119 (RF.ofL args) h fun e r h' => e.ends ∧ ∃ vs, evR r h' [.cn 2 8, .t 3] = some vs ∧ K (oneOf vs) h') : Ctr Tryz.prog 119 args h K :=
 ctr_of_wp follows namesOk Tryz.func119 (c := Tryz.f119.body.getD .skip) (by kernel_rfl) (by kernel_rfl) hl c119_ok c119_res H
def c120 : RC :=
 RC.seq (RC.reg [⟨(some 2), .mv (.c (.bool false)), none, []⟩])
 (RC.seq (RC.reg [⟨(some 3), .mv (.t 0), none, [0]⟩,
 ⟨(some 4), .bin (.int .geq) (.t 3) (.c (.int .i64 0)), none, [3]⟩,
 ⟨(some 5), .mv (.t 4), none, [4]⟩,
 ⟨(some 6), .mv (.t 0), (some (5, true)), [0, 5]⟩,
 ⟨(some 7), .bin (.int .leq) (.t 6) (.c (.int .i64 1048575)), (some (5, true)), [6, 5]⟩,
 ⟨(some 8), .pick (.t 5) (.t 7) (.c (.bool false)), none, [5, 7]⟩,
 ⟨(some 2), .mv (.t 8), none, [8]⟩])
 (RC.ret))
theorem c120_ok : resK Tryz.prog Tryz.f120.ntmps (Tryz.f120.body.getD .skip) = c120 := by kernel_rfl
theorem c120_res : resR Tryz.prog Tryz.f120.ntmps Tryz.f120.results.toList = [.t 2] := by kernel_rfl
theorem c120_ctr {args : List V} {h : Heap} {K : V → Heap → Prop} (hl : Nat.ble args.length 9 = true) (H : wpC Tryz.prog c120 (RF.ofL args) h fun e r h' => e.ends ∧ ∃ vs, evR r h' [.t 2] = some vs ∧ K (oneOf vs) h') : Ctr Tryz.prog 120 args h K :=
 ctr_of_wp follows namesOk Tryz.func120 (c := Tryz.f120.body.getD .skip) (by kernel_rfl) (by kernel_rfl) hl c120_ok c120_res H
def c121 : RC :=
 RC.seq (RC.reg [⟨(some 3), .box (.t 1), none, [1]⟩,
 ⟨(some 4), .mv (.c (.bool false)), none, []⟩])
 (RC.seq (RC.reg [⟨(some 5), .mv (.t 0), none, [0]⟩,
 ⟨(some 6), .iaa 2 1 (.t 3) (.c (.int .i64 0)), none, [3]⟩,
 ⟨(some 7), .ld1 (.t 6), none, [6]⟩,
 ⟨(some 8), .bin (.int .geq) (.t 5) (.t 7), none, [5, 7]⟩,
 ⟨(some 9), .mv (.t 8), none, [8]⟩,
 ⟨(some 10), .mv (.t 0), (some (9, true)), [0, 9]⟩,
 ⟨(some 11), .iaa 2 1 (.t 3) (.c (.int .i64 1)), (some (9, true)), [3, 9]⟩,
 ⟨(some 12), .ld1 (.t 11), (some (9, true)), [11, 9]⟩,
 ⟨(some 13), .bin (.int .leq) (.t 10) (.t 12), (some (9, true)), [10, 12, 9]⟩,
 ⟨(some 14), .pick (.t 9) (.t 13) (.c (.bool false)), none, [9, 13]⟩,
 ⟨(some 4), .mv (.t 14), none, [14]⟩])
 (RC.ret))
theorem c121_ok : resK Tryz.prog Tryz.f121.ntmps (Tryz.f121.body.getD .skip) = c121 := by kernel_rfl
theorem c121_res : resR Tryz.prog Tryz.f121.ntmps Tryz.f121.results.toList = [.t 4] := by kernel_rfl
theorem c121_ctr {args : List V} {h : Heap} {K : V → Heap → Prop} (hl : Nat.ble args.length 15 = true) (H : wpC Tryz.prog c121 (RF.ofL args) h fun e r h' => e.ends ∧ ∃ vs, evR r h' [.t 4] = some vs ∧ K (oneOf vs) h') : Ctr Tryz.prog 121 args h K :=
 ctr_of_wp follows namesOk Tryz.func121 (c := Tryz.f121.body.getD .skip) (by kernel_rfl) (by kernel_rfl) hl c121_ok c121_res H
def c122 : RC :=
 RC.seq (RC.reg [⟨(some 0), .mv (.c .nilmap), none, []⟩])
 (RC.seq (RC.reg [⟨(some 1), .mkm none, none, []⟩,
 ⟨none, .upd .str (.t 1) (.c (.str [97, 100, 100])) (.c (.int .i64 2)), none, [1]⟩,
 ⟨none, .upd .str (.t 1) (.c (.str [115, 117, 98])) (.c (.int .i64 2)), none, [1]⟩,
 ⟨none, .upd .str (.t 1) (.c (.str [109, 117, 108])) (.c (.int .i64 2)), none, [1]⟩,
 ⟨none, .upd .str (.t 1) (.c (.str [100, 105, 118])) (.c (.int .i64 2)), none, [1]⟩,
 ⟨none, .upd .str (.t 1) (.c (.str [109, 111, 100])) (.c (.int .i64 2)), none, [1]⟩,
 ⟨none, .upd .str (.t 1) (.c (.str [101, 113])) (.c (.int .i64 2)), none, [1]⟩,
 ⟨none, .upd .str (.t 1) (.c (.str [108, 116])) (.c (.int .i64 2)), none, [1]⟩,
 ⟨none, .upd .str (.t 1) (.c (.str [108, 101])) (.c (.int .i64 2)), none, [1]⟩,
 ⟨none, .upd .str (.t 1) (.c (.str [98, 121, 116, 101])) (.c (.int .i64 2)), none, [1]⟩,
 ⟨none, .upd .str (.t 1) (.c (.str [106, 111, 105, 110])) (.c (.int .i64 2)), none, [1]⟩,
 ⟨none, .upd .str (.t 1) (.c (.str [115, 101, 116])) (.c (.int .i64 2)), none, [1]⟩,
 ⟨none, .upd .str (.t 1) (.c (.str [110, 101, 103])) (.c (.int .i64 1)), none, [1]⟩,
 ⟨none, .upd .str (.t 1) (.c (.str [103, 101, 116, 99])) (.c (.int .i64 1)), none, [1]⟩,
 ⟨none, .upd .str (.t 1) (.c (.str [112, 117, 116, 99])) (.c (.int .i64 1)), none, [1]⟩,
 ⟨none, .upd .str (.t 1) (.c (.str [112, 117, 116, 115])) (.c (.int .i64 1)), none, [1]⟩,
 ⟨none, .upd .str (.t 1) (.c (.str [115, 105, 122, 101])) (.c (.int .i64 1)), none, [1]⟩,
 ⟨none, .upd .str (.t 1) (.c (.str [99, 104, 114])) (.c (.int .i64 1)), none, [1]⟩,
 ⟨none, .upd .str (.t 1) (.c (.str [99, 117, 116])) (.c (.int .i64 3)), none, [1]⟩,
 ⟨(some 2), .mv (.t 1), none, [1]⟩,
 ⟨(some 0), .mv (.t 2), none, [2]⟩])
 (RC.ret))
theorem c122_ok : resK Tryz.prog Tryz.f122.ntmps (Tryz.f122.body.getD .skip) = c122 := by kernel_rfl
theorem c122_res : resR Tryz.prog Tryz.f122.ntmps Tryz.f122.results.toList = [.t 0] := by kernel_rfl
theorem c122_ctr {args : List V} {h : Heap} {K : V → Heap → Prop} (hl : Nat.ble args.length 3 = true) (H : wpC Tryz.prog c122 (RF.ofL args) h fun e r h' => e.ends ∧ ∃ vs, evR r h' [.t 0] = some vs ∧ K (oneOf vs) h') : Ctr Tryz.prog 122 args h K :=
 ctr_of_wp follows namesOk Tryz.func122 (c := Tryz.f122.body.getD .skip) (by kernel_rfl) (by kernel_rfl) hl c122_ok c122_res H
def c123l1 : RC :=
 RC.seq (RC.reg [⟨(some 12), .bin (.int .lss) (.t 11) (.t 10), none, [11, 10]⟩])
 (RC.seq (RC.cond (.t 12)
 (RC.skip)
 (RC.exit 0))
 (RC.seq (RC.block 1 (RC.seq (RC.reg [⟨(some 13), .ia 1 (.t 9) (.t 11), none, [9, 11]⟩,
 ⟨(some 14), .ld1 (.t 13), none, [13]⟩,
 ⟨(some 5), .mv (.t 14), none, [14]⟩])
 (RC.seq (RC.reg [⟨(some 15), .mv (.t 5), none, [5]⟩,
 ⟨(some 16), .call 120 [(.t 15)], none, [15]⟩,
 ⟨(some 6), .mv (.t 16), none, [16]⟩])
 (RC.seq (RC.seq (RC.reg [⟨(some 17), .fa 0 (.t 1), none, [1]⟩,
 ⟨(some 18), .ld1 (.t 17), none, [17]⟩,
 ⟨(some 19), .bin (.int .eql) (.t 18) (.c (.int .i64 10)), none, [18]⟩])
 (RC.cond (.t 19)
 (RC.reg [⟨(some 20), .mv (.t 5), none, [5]⟩,
 ⟨(some 21), .bin (.int .geq) (.t 20) (.c (.int .i64 (-1073741824))), none, [20]⟩,
 ⟨(some 22), .mv (.t 21), none, [21]⟩,
 ⟨(some 23), .mv (.t 5), (some (22, true)), [5, 22]⟩,
 ⟨(some 24), .bin (.int .leq) (.t 23) (.c (.int .i64 1073741823)), (some (22, true)), [23, 22]⟩,
 ⟨(some 25), .pick (.t 22) (.t 24) (.c (.bool false)), none, [22, 24]⟩,
 ⟨(some 6), .mv (.t 25), none, [25]⟩])
 (RC.skip)))
 (RC.seq (RC.seq (RC.reg [⟨(some 26), .mv (.t 6), none, [6]⟩,
 ⟨(some 27), .un .not (.t 26), none, [26]⟩,
 ⟨(some 28), .mv (.t 27), none, [27]⟩,
 ⟨(some 29), .mv (.t 3), (some (28, false)), [3, 28]⟩,
 ⟨(some 30), .mv (.t 5), (some (28, false)), [5, 28]⟩,
 ⟨(some 31), .look .int (.bool false) false (.t 29) (.t 30), (some (28, false)), [29, 30, 28]⟩,
 ⟨(some 32), .pick (.t 28) (.c (.bool true)) (.t 31), none, [28, 31]⟩])
 (RC.cond (.t 32)
 (RC.seq (RC.reg [⟨(some 2), .mv (.c (.bool false)), none, []⟩])
 (RC.ret))
 (RC.skip)))
 (RC.reg [⟨(some 33), .mv (.t 3), none, [3]⟩,
 ⟨(some 34), .mv (.t 5), none, [5]⟩,
 ⟨none, .upd .int (.t 33) (.t 34) (.c (.bool true)), none, [33, 34]⟩]))))))
 (RC.reg [⟨(some 35), .bin (.int .add) (.t 11) (.c (.int .i64 1)), none, [11]⟩,
 ⟨(some 11), .mv (.t 35), none, [35]⟩])))
def c123 : RC :=
 RC.seq (RC.reg [⟨(some 1), .box (.t 0), none, [0]⟩,
 ⟨(some 2), .mv (.c (.bool false)), none, []⟩])
 (RC.seq (RC.reg [⟨(some 7), .mkm none, none, []⟩,
 ⟨(some 3), .mv (.t 7), none, [7]⟩])
 (RC.seq (RC.seq (RC.reg [⟨(some 8), .fa 5 (.t 1), none, [1]⟩,
 ⟨(some 9), .ld1 (.t 8), none, [8]⟩,
 ⟨(some 10), .len .slice (.t 9), none, [9]⟩,
 ⟨(some 11), .mv (.c (.int .i64 0)), none, []⟩])
 (RC.block 0 (RC.loop c123l1)))
 (RC.seq (RC.reg [⟨(some 36), .fa 6 (.t 1), none, [1]⟩,
 ⟨(some 37), .ld1 (.t 36), none, [36]⟩,
 ⟨(some 38), .len .slice (.t 37), none, [37]⟩,
 ⟨(some 39), .fa 5 (.t 1), none, [1]⟩,
 ⟨(some 40), .ld1 (.t 39), none, [39]⟩,
 ⟨(some 41), .len .slice (.t 40), none, [40]⟩,
 ⟨(some 42), .bin (.int .eql) (.t 38) (.t 41), none, [38, 41]⟩,
 ⟨(some 43), .mv (.t 42), none, [42]⟩,
 ⟨(some 44), .fa 6 (.t 1), (some (43, false)), [1, 43]⟩,
 ⟨(some 45), .ld1 (.t 44), (some (43, false)), [44, 43]⟩,
 ⟨(some 46), .len .slice (.t 45), (some (43, false)), [45, 43]⟩,
 ⟨(some 47), .fa 5 (.t 1), (some (43, false)), [1, 43]⟩,
 ⟨(some 48), .ld1 (.t 47), (some (43, false)), [47, 43]⟩,
 ⟨(some 49), .len .slice (.t 48), (some (43, false)), [48, 43]⟩,
 ⟨(some 50), .bin (.int .add) (.t 49) (.c (.int .i64 1)), (some (43, false)), [49, 43]⟩,
 ⟨(some 51), .bin (.int .eql) (.t 46) (.t 50), (some (43, false)), [46, 50, 43]⟩,
 ⟨(some 52), .pick (.t 43) (.c (.bool true)) (.t 51), none, [43, 51]⟩,
 ⟨(some 2), .mv (.t 52), none, [52]⟩])
 (RC.ret))))
theorem c123_ok : resK Tryz.prog Tryz.f123.ntmps (Tryz.f123.body.getD .skip) = c123 := by kernel_rfl
theorem c123_res : resR Tryz.prog Tryz.f123.ntmps Tryz.f123.results.toList = [.t 2] := by kernel_rfl
theorem c123_ctr {args : List V} {h : Heap} {K : V → Heap → Prop} (hl : Nat.ble args.length 53 = true) (H : wpC Tryz.prog c123 (RF.ofL args) h fun e r h' => e.ends ∧ ∃ vs, evR r h' [.t 2] = some vs ∧ K (oneOf vs) h') : Ctr Tryz.prog 123 args h K :=
 ctr_of_wp follows namesOk Tryz.func123 (c := Tryz.f123.body.getD .skip) (by kernel_rfl) (by kernel_rfl) hl c123_ok c123_res H
def c124 : RC :=
 RC.seq (RC.reg [⟨(some 4), .mv (.c (.bool false)), none, []⟩])
 (RC.seq (RC.reg [⟨(some 5), .mv (.t 0), none, [0]⟩,
 ⟨(some 6), .mv (.t 1), none, [1]⟩,
 ⟨(some 7), .call 160 [(.t 5), (.t 6)], none, [5, 6]⟩,
 ⟨(some 8), .bin (.int .geq) (.t 7) (.c (.int .i64 0)), none, [7]⟩,
 ⟨(some 4), .mv (.t 8), none, [8]⟩])
 (RC.ret))
theorem c124_ok : resK Tryz.prog Tryz.f124.ntmps (Tryz.f124.body.getD .skip) = c124 := by kernel_rfl
theorem c124_res : resR Tryz.prog Tryz.f124.ntmps Tryz.f124.results.toList = [.t 4] := by kernel_rfl
theorem c124_ctr {args : List V} {h : Heap} {K : V → Heap → Prop} (hl : Nat.ble args.length 9 = true) (H : wpC Tryz.prog c124 (RF.ofL args) h fun e r h' => e.ends ∧ ∃ vs, evR r h' [.t 4] = some vs ∧ K (oneOf vs) h') : Ctr Tryz.prog 124 args h K :=
 ctr_of_wp follows namesOk Tryz.func124 (c := Tryz.f124.body.getD .skip) (by kernel_rfl) (by kernel_rfl) hl c124_ok c124_res H
def c125 : RC :=
 RC.seq (RC.reg [⟨(some 1), .box (.t 0), none, [0]⟩,
 ⟨(some 2), .mv (.c (.bool false)), none, []⟩])
 (RC.seq (RC.reg [⟨(some 3), .ldn 3 (.t 1), none, [1]⟩,
 ⟨(some 4), .call 126 [(.t 3)], none, [3]⟩,
 ⟨(some 5), .un .not (.t 4), none, [4]⟩,
 ⟨(some 2), .mv (.t 5), none, [5]⟩])
 (RC.ret))
theorem c125_ok : resK Tryz.prog Tryz.f125.ntmps (Tryz.f125.body.getD .skip) = c125 := by kernel_rfl
theorem c125_res : resR Tryz.prog Tryz.f125.ntmps Tryz.f125.results.toList = [.t 2] := by kernel_rfl
theorem c125_ctr {args : List V} {h : Heap} {K : V → Heap → Prop} (hl : Nat.ble args.length 6 = true) (H : wpC Tryz.prog c125 (RF.ofL args) h fun e r h' => e.ends ∧ ∃ vs, evR r h' [.t 2] = some vs ∧ K (oneOf vs) h') : Ctr Tryz.prog 125 args h K :=
 ctr_of_wp follows namesOk Tryz.func125 (c := Tryz.f125.body.getD .skip) (by kernel_rfl) (by kernel_rfl) hl c125_ok c125_res H
def c126 : RC :=
 RC.seq (RC.reg [⟨(some 1), .box (.t 0), none, [0]⟩,
 ⟨(some 2), .mv (.c (.bool false)), none, []⟩])
 (RC.seq (RC.seq (RC.reg [⟨(some 3), .fa 0 (.t 1), none, [1]⟩,
 ⟨(some 4), .ld1 (.t 3), none, [3]⟩])
 (RC.block 0 (RC.seq (RC.reg [⟨(some 6), .bin (.int .eql) (.t 4) (.c (.int .i64 1)), none, [4]⟩,
 ⟨(some 5), .mv (.t 6), none, [6]⟩])
 (RC.cond (.t 5)
 (RC.seq (RC.reg [⟨(some 7), .fa 1 (.t 1), none, [1]⟩,
 ⟨(some 8), .ld1 (.t 7), none, [7]⟩,
 ⟨(some 9), .bin (.int .geq) (.t 8) (.c (.int .i64 0)), none, [8]⟩,
 ⟨(some 10), .mv (.t 9), none, [9]⟩,
 ⟨(some 11), .fa 1 (.t 1), (some (10, true)), [1, 10]⟩,
 ⟨(some 12), .ld1 (.t 11), (some (10, true)), [11, 10]⟩,
 ⟨(some 13), .bin (.int .leq) (.t 12) (.c (.int .i64 1048575)), (some (10, true)), [12, 10]⟩,
 ⟨(some 14), .pick (.t 10) (.t 13) (.c (.bool false)), none, [10, 13]⟩,
 ⟨(some 15), .mv (.t 14), none, [14]⟩,
 ⟨(some 16), .fa 2 (.t 1), (some (15, true)), [1, 15]⟩,
 ⟨(some 17), .ld1 (.t 16), (some (15, true)), [16, 15]⟩,
 ⟨(some 18), .bin (.str .eql) (.t 17) (.c (.str [])), (some (15, true)), [17, 15]⟩,
 ⟨(some 19), .pick (.t 15) (.t 18) (.c (.bool false)), none, [15, 18]⟩,
 ⟨(some 2), .mv (.t 19), none, [19]⟩])
 (RC.ret))
 (RC.seq (RC.reg [⟨(some 21), .bin (.int .eql) (.t 4) (.c (.int .i64 2)), none, [4]⟩,
 ⟨(some 20), .mv (.t 21), none, [21]⟩])
 (RC.cond (.t 20)
 (RC.seq (RC.reg [⟨(some 22), .fa 1 (.t 1), none, [1]⟩,
 ⟨(some 23), .ld1 (.t 22), none, [22]⟩,
 ⟨(some 24), .bin (.int .geq) (.t 23) (.c (.int .i64 (-1073741824))), none, [23]⟩,
 ⟨(some 25), .mv (.t 24), none, [24]⟩,
 ⟨(some 26), .fa 1 (.t 1), (some (25, true)), [1, 25]⟩,
 ⟨(some 27), .ld1 (.t 26), (some (25, true)), [26, 25]⟩,
 ⟨(some 28), .bin (.int .leq) (.t 27) (.c (.int .i64 1073741823)), (some (25, true)), [27, 25]⟩,
 ⟨(some 29), .pick (.t 25) (.t 28) (.c (.bool false)), none, [25, 28]⟩,
 ⟨(some 30), .mv (.t 29), none, [29]⟩,
 ⟨(some 31), .fa 2 (.t 1), (some (30, true)), [1, 30]⟩,
 ⟨(some 32), .ld1 (.t 31), (some (30, true)), [31, 30]⟩,
 ⟨(some 33), .bin (.str .eql) (.t 32) (.c (.str [])), (some (30, true)), [32, 30]⟩,
 ⟨(some 34), .pick (.t 30) (.t 33) (.c (.bool false)), none, [30, 33]⟩,
 ⟨(some 2), .mv (.t 34), none, [34]⟩])
 (RC.ret))
 (RC.seq (RC.reg [⟨(some 36), .bin (.int .eql) (.t 4) (.c (.int .i64 3)), none, [4]⟩,
 ⟨(some 35), .mv (.t 36), none, [36]⟩])
 (RC.cond (.t 35)
 (RC.seq (RC.reg [⟨(some 37), .fa 1 (.t 1), none, [1]⟩,
 ⟨(some 38), .ld1 (.t 37), none, [37]⟩,
 ⟨(some 39), .bin (.int .eql) (.t 38) (.c (.int .i64 0)), none, [38]⟩,
 ⟨(some 40), .mv (.t 39), none, [39]⟩,
 ⟨(some 41), .fa 2 (.t 1), (some (40, true)), [1, 40]⟩,
 ⟨(some 42), .ld1 (.t 41), (some (40, true)), [41, 40]⟩,
 ⟨(some 43), .len .str (.t 42), (some (40, true)), [42, 40]⟩,
 ⟨(some 44), .bin (.int .leq) (.t 43) (.c (.int .i64 4096)), (some (40, true)), [43, 40]⟩,
 ⟨(some 45), .pick (.t 40) (.t 44) (.c (.bool false)), none, [40, 44]⟩,
 ⟨(some 2), .mv (.t 45), none, [45]⟩])
 (RC.ret))
 (RC.skip)))))))))
 (RC.seq (RC.reg [⟨(some 2), .mv (.c (.bool false)), none, []⟩])
 (RC.ret)))
theorem c126_ok : resK Tryz.prog Tryz.f126.ntmps (Tryz.f126.body.getD .skip) = c126 := by kernel_rfl
theorem c126_res : resR Tryz.prog Tryz.f126.ntmps Tryz.f126.results.toList = [.t 2] := by kernel_rfl
theorem c126_ctr {args : List V} {h : Heap} {K : V → Heap → Prop} (hl : Nat.ble args.length 46 = true) (H : wpC Tryz.prog c126 (RF.ofL args) h fun e r h' => e.ends ∧ ∃ vs, evR r h' [.t 2] = some vs ∧ K (oneOf vs) h') : Ctr Tryz.prog 126 args h K :=
 ctr_of_wp follows namesOk Tryz.func126 (c := Tryz.f126.body.getD .skip) (by kernel_rfl) (by kernel_rfl) hl c126_ok c126_res H
def c127l1 : RC :=
 RC.seq (RC.reg [⟨(some 9), .bin (.int .lss) (.t 8) (.t 7), none, [8, 7]⟩])
 (RC.seq (RC.cond (.t 9)
 (RC.skip)
 (RC.exit 0))
 (RC.seq (RC.block 1 (RC.seq (RC.reg [⟨(some 10), .mv (.t 8), none, [8]⟩,
 ⟨(some 5), .mv (.t 10), none, [10]⟩])
 (RC.seq (RC.reg [⟨(some 11), .mv (.t 1), none, [1]⟩,
 ⟨(some 12), .mv (.t 0), none, [0]⟩,
 ⟨(some 13), .mv (.t 5), none, [5]⟩,
 ⟨(some 14), .ia 7 (.t 12) (.t 13), none, [12, 13]⟩,
 ⟨(some 15), .ldn 7 (.t 14), none, [14]⟩,
 ⟨(some 16), .callv (.t 11) [(.t 15)], none, [11, 15]⟩])
 (RC.cond (.t 16)
 (RC.seq (RC.reg [⟨(some 17), .mv (.t 5), none, [5]⟩,
 ⟨(some 4), .mv (.t 17), none, [17]⟩])
 (RC.ret))
 (RC.skip)))))
 (RC.reg [⟨(some 18), .bin (.int .add) (.t 8) (.c (.int .i64 1)), none, [8]⟩,
 ⟨(some 8), .mv (.t 18), none, [18]⟩])))
def c127 : RC :=
 RC.seq (RC.reg [⟨(some 4), .mv (.c (.int .i64 0)), none, []⟩])
 (RC.seq (RC.seq (RC.reg [⟨(some 6), .mv (.t 0), none, [0]⟩,
 ⟨(some 7), .len .slice (.t 6), none, [6]⟩,
 ⟨(some 8), .mv (.c (.int .i64 0)), none, []⟩])
 (RC.block 0 (RC.loop c127l1)))
 (RC.seq (RC.reg [⟨(some 4), .mv (.c (.int .i64 (-1))), none, []⟩])
 (RC.ret)))
theorem c127_ok : resK Tryz.prog Tryz.f127.ntmps (Tryz.f127.body.getD .skip) = c127 := by kernel_rfl
theorem c127_res : resR Tryz.prog Tryz.f127.ntmps Tryz.f127.results.toList = [.t 4] := by kernel_rfl
theorem c127_ctr {args : List V} {h : Heap} {K : V → Heap → Prop} (hl : Nat.ble args.length 19 = true) (H : wpC Tryz.prog c127 (RF.ofL args) h fun e r h' => e.ends ∧ ∃ vs, evR r h' [.t 4] = some vs ∧ K (oneOf vs) h') : Ctr Tryz.prog 127 args h K :=
 ctr_of_wp follows namesOk Tryz.func127 (c := Tryz.f127.body.getD .skip) (by kernel_rfl) (by kernel_rfl) hl c127_ok c127_res H
def c160l1 : RC :=
 RC.seq (RC.reg [⟨(some 9), .bin (.int .lss) (.t 8) (.t 7), none, [8, 7]⟩])
 (RC.seq (RC.cond (.t 9)
 (RC.skip)
 (RC.exit 0))
 (RC.seq (RC.block 1 (RC.seq (RC.reg [⟨(some 10), .mv (.t 8), none, [8]⟩,
 ⟨(some 5), .mv (.t 10), none, [10]⟩])
 (RC.seq (RC.reg [⟨(some 11), .mv (.t 1), none, [1]⟩,
 ⟨(some 12), .mv (.t 0), none, [0]⟩,
 ⟨(some 13), .mv (.t 5), none, [5]⟩,
 ⟨(some 14), .ia 3 (.t 12) (.t 13), none, [12, 13]⟩,
 ⟨(some 15), .ldn 3 (.t 14), none, [14]⟩,
 ⟨(some 16), .callv (.t 11) [(.t 15)], none, [11, 15]⟩])
 (RC.cond (.t 16)
 (RC.seq (RC.reg [⟨(some 17), .mv (.t 5), none, [5]⟩,
 ⟨(some 4), .mv (.t 17), none, [17]⟩])
 (RC.ret))
 (RC.skip)))))
 (RC.reg [⟨(some 18), .bin (.int .add) (.t 8) (.c (.int .i64 1)), none, [8]⟩,
 ⟨(some 8), .mv (.t 18), none, [18]⟩])))
def c160 : RC :=
 RC.seq (RC.reg [⟨(some 4), .mv (.c (.int .i64 0)), none, []⟩])
 (RC.seq (RC.seq (RC.reg [⟨(some 6), .mv (.t 0), none, [0]⟩,
 ⟨(some 7), .len .slice (.t 6), none, [6]⟩,
 ⟨(some 8), .mv (.c (.int .i64 0)), none, []⟩])
 (RC.block 0 (RC.loop c160l1)))
 (RC.seq (RC.reg [⟨(some 4), .mv (.c (.int .i64 (-1))), none, []⟩])
 (RC.ret)))
theorem c160_ok : resK Tryz.prog Tryz.f160.ntmps (Tryz.f160.body.getD .skip) = c160 := by kernel_rfl
theorem c160_res : resR Tryz.prog Tryz.f160.ntmps Tryz.f160.results.toList = [.t 4] := by kernel_rfl
theorem c160_ctr {args : List V} {h : Heap} {K : V → Heap → Prop} (hl : Nat.ble args.length 19 = true) (H : wpC Tryz.prog c160 (RF.ofL args) h fun e r h' => e.ends ∧ ∃ vs, evR r h' [.t 4] = some vs ∧ K (oneOf vs) h') : Ctr Tryz.prog 160 args h K :=
 ctr_of_wp follows namesOk Tryz.func160 (c := Tryz.f160.body.getD .skip) (by kernel_rfl) (by kernel_rfl) hl c160_ok c160_res H
end Go.Proofs.YtjbiefneffiogaaGreat

namespace Go.Proofs.YtjbiefneffiogaaGreat
open Go Am
def c5 : RC :=
 RC.seq (RC.reg [⟨(some 1), .box (.t 0), none, [0]⟩,
 ⟨(some 2), .mv (.c (.bool false)), none, []⟩])
 (RC.seq (RC.seq (RC.reg [⟨(some 5), .ldn 7 (.t 1), none, [1]⟩,
 ⟨(some 6), .call 10 [(.t 5), (.c (.int .i64 400))], none, [5]⟩])
 (RC.cond (.t 6)
 (RC.seq (RC.reg [⟨(some 7), .call 11 [], none, []⟩,
 ⟨(some 2), .mv (.t 7), none, [7]⟩])
 (RC.ret))
 (RC.skip)))
 (RC.seq (RC.reg [⟨(some 8), .ldn 7 (.t 1), none, [1]⟩,
 ⟨(some 9), .call 12 [(.t 8)], none, [8]⟩,
 ⟨(some 3), .new [(.int .i64 0), (.int .i64 0), (.int .i64 0), (.str []), .nilslice, .nilslice, .nilslice], none, []⟩,
 ⟨none, .st 7 (.t 3) (.t 9), none, [3, 9]⟩])
 (RC.seq (RC.draw [⟨(some 10), .ldn 7 (.t 3), none, [3]⟩,
 ⟨(some 12), .ldn 7 (.t 1), none, [1]⟩,
 ⟨(some 11), .call 20 [(.t 10)], none, [10]⟩,
 ⟨(some 13), .call 21 [(.t 12)], none, [12]⟩,
 ⟨(some 14), .bin (.int .eql) (.t 11) (.t 13), none, [11, 13]⟩,
 ⟨(some 15), .mv (.t 14), none, [14]⟩,
 ⟨(some 16), .ldn 7 (.t 3), (some (15, true)), [3, 15]⟩,
 ⟨(some 18), .ldn 7 (.t 1), (some (15, true)), [1, 15]⟩,
 ⟨(some 17), .call 22 [(.t 16)], (some (15, true)), [16, 15]⟩,
 ⟨(some 19), .call 23 [(.t 18)], (some (15, true)), [18, 15]⟩,
 ⟨(some 20), .bin (.int .eql) (.t 17) (.t 19), (some (15, true)), [17, 19, 15]⟩,
 ⟨(some 21), .pick (.t 15) (.t 20) (.c (.bool false)), none, [15, 20]⟩,
 ⟨(some 4), .mv (.t 21), none, [21]⟩] [(0, [2]), (1, [2, 3]), (6, [8]), (7, [8, 9])])
 (RC.seq (RC.draw [⟨(some 22), .mv (.t 4), none, [4]⟩,
 ⟨(some 23), .mv (.t 22), none, [22]⟩,
 ⟨(some 24), .ldn 7 (.t 3), (some (23, true)), [3, 23]⟩,
 ⟨(some 26), .ldn 7 (.t 1), (some (23, true)), [1, 23]⟩,
 ⟨(some 25), .call 25 [(.t 24)], (some (23, true)), [24, 23]⟩,
 ⟨(some 27), .call 26 [(.t 26)], (some (23, true)), [26, 23]⟩,
 ⟨(some 28), .call 24 [(.t 25), (.t 27)], (some (23, true)), [25, 27, 23]⟩,
 ⟨(some 29), .pick (.t 23) (.t 28) (.c (.bool false)), none, [23, 28]⟩,
 ⟨(some 30), .mv (.t 29), none, [29]⟩,
 ⟨(some 31), .ldn 7 (.t 3), (some (30, true)), [3, 30]⟩,
 ⟨(some 33), .ldn 7 (.t 1), (some (30, true)), [1, 30]⟩,
 ⟨(some 32), .call 27 [(.t 31)], (some (30, true)), [31, 30]⟩,
 ⟨(some 34), .call 28 [(.t 33)], (some (30, true)), [33, 30]⟩,
 ⟨(some 35), .call 24 [(.t 32), (.t 34)], (some (30, true)), [32, 34, 30]⟩,
 ⟨(some 36), .pick (.t 30) (.t 35) (.c (.bool false)), none, [30, 35]⟩,
 ⟨(some 4), .mv (.t 36), none, [36]⟩] [(2, [4]), (3, [4, 5]), (9, [11]), (10, [11, 12])])
 (RC.seq (RC.reg [⟨(some 37), .mv (.t 4), none, [4]⟩,
 ⟨(some 38), .mv (.t 37), none, [37]⟩,
 ⟨(some 39), .ldn 7 (.t 3), (some (38, true)), [3, 38]⟩,
 ⟨(some 40), .ldn 7 (.t 1), (some (38, true)), [1, 38]⟩,
 ⟨(some 41), .call 16 [(.t 39), (.t 40)], (some (38, true)), [39, 40, 38]⟩,
 ⟨(some 42), .pick (.t 38) (.t 41) (.c (.bool false)), none, [38, 41]⟩,
 ⟨(some 43), .mv (.t 42), none, [42]⟩,
 ⟨(some 44), .call 11 [], (some (43, true)), [43]⟩,
 ⟨(some 45), .pick (.t 43) (.t 44) (.c (.bool false)), none, [43, 44]⟩,
 ⟨(some 2), .mv (.t 45), none, [45]⟩])
 (RC.ret))))))
def c6 : RC :=
 RC.seq (RC.reg [⟨(some 2), .box (.t 0), none, [0]⟩,
 ⟨(some 4), .mv (.c (.bool false)), none, []⟩])
 (RC.seq (RC.seq (RC.reg [⟨(some 10), .ldn 7 (.t 2), none, [2]⟩,
 ⟨(some 11), .call 10 [(.t 10), (.c (.int .i64 400))], none, [10]⟩])
 (RC.cond (.t 11)
 (RC.seq (RC.reg [⟨(some 12), .call 11 [], none, []⟩,
 ⟨(some 4), .mv (.t 12), none, [12]⟩])
 (RC.ret))
 (RC.skip)))
 (RC.seq (RC.reg [⟨(some 13), .ldn 7 (.t 2), none, [2]⟩,
 ⟨(some 14), .call 12 [(.t 13)], none, [13]⟩,
 ⟨(some 5), .new [(.int .i64 0), (.int .i64 0), (.int .i64 0), (.str []), .nilslice, .nilslice, .nilslice], none, []⟩,
 ⟨none, .st 7 (.t 5) (.t 14), none, [5, 14]⟩])
 (RC.seq (RC.reg [⟨(some 16), .ldn 7 (.t 5), none, [5]⟩,
 ⟨(some 17), .mv (.t 1), none, [1]⟩,
 ⟨(some 18), .call 29 [(.t 16), (.t 17)], none, [16, 17]⟩,
 ⟨(some 15), .mv (.t 18), none, [18]⟩,
 ⟨(some 19), .ext (.t 15) 0, none, [15]⟩,
 ⟨(some 20), .ext (.t 15) 1, none, [15]⟩,
 ⟨(some 6), .new [(.int .i64 0), (.int .i64 0), (.int .i64 0), (.str []), .nilslice, .nilslice, .nilslice], none, []⟩,
 ⟨none, .st 7 (.t 6) (.t 19), none, [6, 19]⟩,
 ⟨(some 7), .mv (.t 20), none, [20]⟩])
 (RC.seq (RC.reg [⟨(some 22), .ldn 7 (.t 2), none, [2]⟩,
 ⟨(some 23), .mv (.t 1), none, [1]⟩,
 ⟨(some 24), .call 30 [(.t 22), (.t 23)], none, [22, 23]⟩,
 ⟨(some 21), .mv (.t 24), none, [24]⟩,
 ⟨(some 25), .ext (.t 21) 0, none, [21]⟩,
 ⟨(some 26), .ext (.t 21) 1, none, [21]⟩,
 ⟨(some 8), .new [(.int .i64 0), (.int .i64 0), (.int .i64 0), (.str []), .nilslice, .nilslice, .nilslice], none, []⟩,
 ⟨none, .st 7 (.t 8) (.t 25), none, [8, 25]⟩,
 ⟨(some 9), .mv (.t 26), none, [26]⟩])
 (RC.seq (RC.seq (RC.reg [⟨(some 27), .ldn 7 (.t 6), none, [6]⟩,
 ⟨(some 28), .ldn 7 (.t 8), none, [8]⟩,
 ⟨(some 29), .call 16 [(.t 27), (.t 28)], none, [27, 28]⟩,
 ⟨(some 30), .un .not (.t 29), none, [29]⟩,
 ⟨(some 31), .mv (.t 30), none, [30]⟩,
 ⟨(some 32), .mv (.t 7), (some (31, false)), [7, 31]⟩,
 ⟨(some 33), .mv (.t 9), (some (31, false)), [9, 31]⟩,
 ⟨(some 34), .bin (.int .neq) (.t 32) (.t 33), (some (31, false)), [32, 33, 31]⟩,
 ⟨(some 35), .pick (.t 31) (.c (.bool true)) (.t 34), none, [31, 34]⟩])
 (RC.cond (.t 35)
 (RC.seq (RC.reg [⟨(some 4), .mv (.c (.bool false)), none, []⟩])
 (RC.ret))
 (RC.skip)))
 (RC.seq (RC.reg [⟨(some 36), .ldn 7 (.t 6), none, [6]⟩,
 ⟨(some 37), .call 31 [(.t 36)], none, [36]⟩])
 (RC.seq (RC.reg [⟨(some 38), .ldn 7 (.t 5), none, [5]⟩,
 ⟨(some 39), .ldn 7 (.t 2), none, [2]⟩,
 ⟨(some 40), .call 16 [(.t 38), (.t 39)], none, [38, 39]⟩,
 ⟨(some 41), .mv (.t 40), none, [40]⟩,
 ⟨(some 42), .call 11 [], (some (41, true)), [41]⟩,
 ⟨(some 43), .pick (.t 41) (.t 42) (.c (.bool false)), none, [41, 42]⟩,
 ⟨(some 4), .mv (.t 43), none, [43]⟩])
 (RC.ret))))))))
theorem c6_ok : resK Tryz.prog Tryz.f6.ntmps (Tryz.f6.body.getD .skip) = c6 := by kernel_rfl
theorem c6_res : resR Tryz.prog Tryz.f6.ntmps Tryz.f6.results.toList = [.t 4] := by kernel_rfl
theorem c6_ctr {args : List V} {h : Heap} {K : V → Heap → Prop} (hl : Nat.ble args.length 44 = true) (H : wpC Tryz.prog c6 (RF.ofL args) h fun e r h' => e.ends ∧ ∃ vs, evR r h' [.t 4] = some vs ∧ K (oneOf vs) h') : Ctr Tryz.prog 6 args h K :=
 ctr_of_wp follows namesOk Tryz.func6 (c := Tryz.f6.body.getD .skip) (by kernel_rfl) (by kernel_rfl) hl c6_ok c6_res H
def c10 : RC :=
 RC.seq (RC.reg [⟨(some 2), .box (.t 0), none, [0]⟩,
 ⟨(some 4), .mv (.c (.bool false)), none, []⟩])
 (RC.seq (RC.reg [⟨(some 5), .ldn 7 (.t 2), none, [2]⟩,
 ⟨(some 6), .mv (.t 1), none, [1]⟩,
 ⟨(some 7), .call 39 [(.t 5), (.t 6)], none, [5, 6]⟩,
 ⟨(some 8), .mv (.t 1), none, [1]⟩,
 ⟨(some 9), .bin (.int .gtr) (.t 7) (.t 8), none, [7, 8]⟩,
 ⟨(some 4), .mv (.t 9), none, [9]⟩])
 (RC.ret))
theorem c10_ok : resK Tryz.prog Tryz.f10.ntmps (Tryz.f10.body.getD .skip) = c10 := by kernel_rfl
theorem c10_res : resR Tryz.prog Tryz.f10.ntmps Tryz.f10.results.toList = [.t 4] := by kernel_rfl
theorem c10_ctr {args : List V} {h : Heap} {K : V → Heap → Prop} (hl : Nat.ble args.length 10 = true) (H : wpC Tryz.prog c10 (RF.ofL args) h fun e r h' => e.ends ∧ ∃ vs, evR r h' [.t 4] = some vs ∧ K (oneOf vs) h') : Ctr Tryz.prog 10 args h K :=
 ctr_of_wp follows namesOk Tryz.func10 (c := Tryz.f10.body.getD .skip) (by kernel_rfl) (by kernel_rfl) hl c10_ok c10_res H
def c12l1 : RC :=
 RC.seq (RC.seq (RC.reg [⟨(some 18), .mv (.t 4), none, [4]⟩,
 ⟨(some 19), .mv (.t 3), none, [3]⟩,
 ⟨(some 20), .len .slice (.t 19), none, [19]⟩,
 ⟨(some 21), .bin (.int .lss) (.t 18) (.t 20), none, [18, 20]⟩])
 (RC.cond (.t 21)
 (RC.skip)
 (RC.exit 0)))
 (RC.seq (RC.block 1 (RC.draw [⟨(some 24), .fa 6 (.t 1), none, [1]⟩,
 ⟨(some 25), .ld1 (.t 24), none, [24]⟩,
 ⟨(some 26), .mv (.t 3), none, [3]⟩,
 ⟨(some 27), .mv (.t 4), none, [4]⟩,
 ⟨(some 28), .ia 7 (.t 26) (.t 27), none, [26, 27]⟩,
 ⟨(some 29), .ldn 7 (.t 28), none, [28]⟩,
 ⟨(some 30), .call 12 [(.t 29)], none, [29]⟩,
 ⟨(some 31), .bsl 1 7 [(.int .i64 0), (.int .i64 0), (.int .i64 0), (.str []), .nilslice, .nilslice, .nilslice] [(0, 7, (.t 30))], none, [30]⟩,
 ⟨(some 32), .app 7 (.t 25) (.t 31), none, [25, 31]⟩,
 ⟨(some 33), .fa 6 (.t 1), none, [1]⟩,
 ⟨none, .st 1 (.t 33) (.t 32), none, [33, 32]⟩] [(1, [6, 8]), (5, [6])]))
 (RC.reg [⟨(some 22), .mv (.t 4), none, [4]⟩,
 ⟨(some 23), .bin (.int .add) (.t 22) (.c (.int .i64 1)), none, [22]⟩,
 ⟨(some 4), .mv (.t 23), none, [23]⟩]))
def c12 : RC :=
 RC.seq (RC.reg [⟨(some 1), .box (.t 0), none, [0]⟩,
 ⟨(some 2), .new [(.int .i64 0), (.int .i64 0), (.int .i64 0), (.str []), .nilslice, .nilslice, .nilslice], none, []⟩])
 (RC.seq (RC.reg [⟨(some 5), .bsl 0 3 [(.int .i64 0), (.int .i64 0), (.str [])] [], none, []⟩,
 ⟨(some 6), .fa 4 (.t 1), none, [1]⟩,
 ⟨(some 7), .ld1 (.t 6), none, [6]⟩,
 ⟨(some 8), .app 3 (.t 5) (.t 7), none, [5, 7]⟩,
 ⟨(some 9), .fa 4 (.t 1), none, [1]⟩,
 ⟨none, .st 1 (.t 9) (.t 8), none, [9, 8]⟩])
 (RC.seq (RC.reg [⟨(some 10), .bsl 0 1 [(.int .i64 0)] [], none, []⟩,
 ⟨(some 11), .fa 5 (.t 1), none, [1]⟩,
 ⟨(some 12), .ld1 (.t 11), none, [11]⟩,
 ⟨(some 13), .app 1 (.t 10) (.t 12), none, [10, 12]⟩,
 ⟨(some 14), .fa 5 (.t 1), none, [1]⟩,
 ⟨none, .st 1 (.t 14) (.t 13), none, [14, 13]⟩])
 (RC.seq (RC.reg [⟨(some 15), .fa 6 (.t 1), none, [1]⟩,
 ⟨(some 16), .ld1 (.t 15), none, [15]⟩,
 ⟨(some 3), .mv (.t 16), none, [16]⟩])
 (RC.seq (RC.reg [⟨(some 17), .fa 6 (.t 1), none, [1]⟩,
 ⟨none, .st 1 (.t 17) (.c .nilslice), none, [17]⟩])
 (RC.seq (RC.seq (RC.reg [⟨(some 4), .mv (.c (.int .i64 0)), none, []⟩])
 (RC.block 0 (RC.loop c12l1)))
 (RC.seq (RC.reg [⟨(some 34), .ldn 7 (.t 1), none, [1]⟩,
 ⟨none, .st 7 (.t 2) (.t 34), none, [2, 34]⟩])
 (RC.ret)))))))
theorem c12_ok : resK Tryz.prog Tryz.f12.ntmps (Tryz.f12.body.getD .skip) = c12 := by kernel_rfl
theorem c12_res : resR Tryz.prog Tryz.f12.ntmps Tryz.f12.results.toList = [.cn 2 7] := by kernel_rfl
theorem c12_ctr {args : List V} {h : Heap} {K : V → Heap → Prop} (hl : Nat.ble args.length 35 = true) (H : wpC Tryz.prog c12 (RF.ofL args) h fun e r h' => e.ends ∧ ∃ vs, evR r h' [.cn 2 7] = some vs ∧ K (oneOf vs) h') : Ctr Tryz.prog 12 args h K :=
 ctr_of_wp follows namesOk Tryz.func12 (c := Tryz.f12.body.getD .skip) (by kernel_rfl) (by kernel_rfl) hl c12_ok c12_res H
def c16 : RC :=
 RC.seq (RC.reg [⟨(some 2), .box (.t 0), none, [0]⟩,
 ⟨(some 3), .box (.t 1), none, [1]⟩,
 ⟨(some 4), .mv (.c (.bool false)), none, []⟩])
 (RC.seq (RC.reg [⟨(some 5), .fa 0 (.t 2), none, [2]⟩,
 ⟨(some 6), .ld1 (.t 5), none, [5]⟩,
 ⟨(some 7), .fa 0 (.t 3), none, [3]⟩,
 ⟨(some 8), .ld1 (.t 7), none, [7]⟩,
 ⟨(some 9), .bin (.int .eql) (.t 6) (.t 8), none, [6, 8]⟩,
 ⟨(some 10), .mv (.t 9), none, [9]⟩,
 ⟨(some 11), .fa 1 (.t 2), (some (10, true)), [2, 10]⟩,
 ⟨(some 12), .ld1 (.t 11), (some (10, true)), [11, 10]⟩,
 ⟨(some 13), .fa 1 (.t 3), (some (10, true)), [3, 10]⟩,
 ⟨(some 14), .ld1 (.t 13), (some (10, true)), [13, 10]⟩,
 ⟨(some 15), .bin (.int .eql) (.t 12) (.t 14), (some (10, true)), [12, 14, 10]⟩,
 ⟨(some 16), .pick (.t 10) (.t 15) (.c (.bool false)), none, [10, 15]⟩,
 ⟨(some 17), .mv (.t 16), none, [16]⟩,
 ⟨(some 18), .fa 2 (.t 2), (some (17, true)), [2, 17]⟩,
 ⟨(some 19), .ld1 (.t 18), (some (17, true)), [18, 17]⟩,
 ⟨(some 20), .fa 2 (.t 3), (some (17, true)), [3, 17]⟩,
 ⟨(some 21), .ld1 (.t 20), (some (17, true)), [20, 17]⟩,
 ⟨(some 22), .bin (.int .eql) (.t 19) (.t 21), (some (17, true)), [19, 21, 17]⟩,
 ⟨(some 23), .pick (.t 17) (.t 22) (.c (.bool false)), none, [17, 22]⟩,
 ⟨(some 24), .mv (.t 23), none, [23]⟩,
 ⟨(some 25), .fa 3 (.t 2), (some (24, true)), [2, 24]⟩,
 ⟨(some 26), .ld1 (.t 25), (some (24, true)), [25, 24]⟩,
 ⟨(some 27), .fa 3 (.t 3), (some (24, true)), [3, 24]⟩,
 ⟨(some 28), .ld1 (.t 27), (some (24, true)), [27, 24]⟩,
 ⟨(some 29), .bin (.str .eql) (.t 26) (.t 28), (some (24, true)), [26, 28, 24]⟩,
 ⟨(some 30), .pick (.t 24) (.t 29) (.c (.bool false)), none, [24, 29]⟩,
 ⟨(some 31), .mv (.t 30), none, [30]⟩,
 ⟨(some 32), .fa 4 (.t 2), (some (31, true)), [2, 31]⟩,
 ⟨(some 33), .ld1 (.t 32), (some (31, true)), [32, 31]⟩,
 ⟨(some 34), .fa 4 (.t 3), (some (31, true)), [3, 31]⟩,
 ⟨(some 35), .ld1 (.t 34), (some (31, true)), [34, 31]⟩,
 ⟨(some 36), .call 42 [(.t 33), (.t 35)], (some (31, true)), [33, 35, 31]⟩,
 ⟨(some 37), .pick (.t 31) (.t 36) (.c (.bool false)), none, [31, 36]⟩,
 ⟨(some 38), .mv (.t 37), none, [37]⟩,
 ⟨(some 39), .fa 5 (.t 2), (some (38, true)), [2, 38]⟩,
 ⟨(some 40), .ld1 (.t 39), (some (38, true)), [39, 38]⟩,
 ⟨(some 41), .fa 5 (.t 3), (some (38, true)), [3, 38]⟩,
 ⟨(some 42), .ld1 (.t 41), (some (38, true)), [41, 38]⟩,
 ⟨(some 43), .call 24 [(.t 40), (.t 42)], (some (38, true)), [40, 42, 38]⟩,
 ⟨(some 44), .pick (.t 38) (.t 43) (.c (.bool false)), none, [38, 43]⟩,
 ⟨(some 45), .mv (.t 44), none, [44]⟩,
 ⟨(some 46), .fa 6 (.t 2), (some (45, true)), [2, 45]⟩,
 ⟨(some 47), .ld1 (.t 46), (some (45, true)), [46, 45]⟩,
 ⟨(some 48), .fa 6 (.t 3), (some (45, true)), [3, 45]⟩,
 ⟨(some 49), .ld1 (.t 48), (some (45, true)), [48, 45]⟩,
 ⟨(some 50), .call 43 [(.t 47), (.t 49)], (some (45, true)), [47, 49, 45]⟩,
 ⟨(some 51), .pick (.t 45) (.t 50) (.c (.bool false)), none, [45, 50]⟩,
 ⟨(some 4), .mv (.t 51), none, [51]⟩])
 (RC.ret))
theorem c16_ok : resK Tryz.prog Tryz.f16.ntmps (Tryz.f16.body.getD .skip) = c16 := by kernel_rfl
theorem c16_res : resR Tryz.prog Tryz.f16.ntmps Tryz.f16.results.toList = [.t 4] := by kernel_rfl
theorem c16_ctr {args : List V} {h : Heap} {K : V → Heap → Prop} (hl : Nat.ble args.length 52 = true) (H : wpC Tryz.prog c16 (RF.ofL args) h fun e r h' => e.ends ∧ ∃ vs, evR r h' [.t 4] = some vs ∧ K (oneOf vs) h') : Ctr Tryz.prog 16 args h K :=
 ctr_of_wp follows namesOk Tryz.func16 (c := Tryz.f16.body.getD .skip) (by kernel_rfl) (by kernel_rfl) hl c16_ok c16_res H
def c21 : RC :=
 RC.seq (RC.reg [⟨(some 1), .box (.t 0), none, [0]⟩,
 ⟨(some 2), .mv (.c (.int .i64 0)), none, []⟩])
 (RC.seq (RC.seq (RC.reg [⟨(some 3), .ldn 7 (.t 1), none, [1]⟩,
 ⟨(some 4), .call 47 [(.t 3)], none, [3]⟩,
 ⟨(some 5), .un .not (.t 4), none, [4]⟩])
 (RC.cond (.t 5)
 (RC.seq (RC.reg [⟨(some 2), .mv (.c (.int .i64 2)), none, []⟩])
 (RC.ret))
 (RC.skip)))
 (RC.seq (RC.seq (RC.draw [⟨(some 6), .ldn 7 (.t 1), none, [1]⟩,
 ⟨(some 9), .ldn 7 (.t 1), none, [1]⟩,
 ⟨(some 7), .call 48 [(.t 6), (.c .nilslice)], none, [6]⟩,
 ⟨(some 8), .len .slice (.t 7), none, [7]⟩,
 ⟨(some 10), .call 26 [(.t 9)], none, [9]⟩,
 ⟨(some 11), .len .slice (.t 10), none, [10]⟩,
 ⟨(some 12), .bin (.int .neq) (.t 8) (.t 11), none, [8, 11]⟩] [(0, [2]), (1, [2, 4])])
 (RC.cond (.t 12)
 (RC.seq (RC.reg [⟨(some 2), .mv (.c (.int .i64 7)), none, []⟩])
 (RC.ret))
 (RC.skip)))
 (RC.seq (RC.seq (RC.reg [⟨(some 13), .ldn 7 (.t 1), none, [1]⟩,
 ⟨(some 14), .call 28 [(.t 13)], none, [13]⟩,
 ⟨(some 15), .len .slice (.t 14), none, [14]⟩,
 ⟨(some 16), .bin (.int .gtr) (.t 15) (.c (.int .i64 0)), none, [15]⟩])
 (RC.cond (.t 16)
 (RC.seq (RC.reg [⟨(some 2), .mv (.c (.int .i64 6)), none, []⟩])
 (RC.ret))
 (RC.skip)))
 (RC.seq (RC.reg [⟨(some 2), .mv (.c (.int .i64 0)), none, []⟩])
 (RC.ret)))))
theorem c21_ok : resK Tryz.prog Tryz.f21.ntmps (Tryz.f21.body.getD .skip) = c21 := by kernel_rfl
theorem c21_res : resR Tryz.prog Tryz.f21.ntmps Tryz.f21.results.toList = [.t 2] := by kernel_rfl
theorem c21_ctr {args : List V} {h : Heap} {K : V → Heap → Prop} (hl : Nat.ble args.length 17 = true) (H : wpC Tryz.prog c21 (RF.ofL args) h fun e r h' => e.ends ∧ ∃ vs, evR r h' [.t 2] = some vs ∧ K (oneOf vs) h') : Ctr Tryz.prog 21 args h K :=
 ctr_of_wp follows namesOk Tryz.func21 (c := Tryz.f21.body.getD .skip) (by kernel_rfl) (by kernel_rfl) hl c21_ok c21_res H
def c24l1 : RC :=
 RC.seq (RC.seq (RC.reg [⟨(some 11), .mv (.t 5), none, [5]⟩,
 ⟨(some 12), .mv (.t 0), none, [0]⟩,
 ⟨(some 13), .len .slice (.t 12), none, [12]⟩,
 ⟨(some 14), .bin (.int .lss) (.t 11) (.t 13), none, [11, 13]⟩])
 (RC.cond (.t 14)
 (RC.skip)
 (RC.exit 0)))
 (RC.seq (RC.block 1 (RC.seq (RC.draw [⟨(some 17), .mv (.t 0), none, [0]⟩,
 ⟨(some 18), .mv (.t 5), none, [5]⟩,
 ⟨(some 19), .ia 1 (.t 17) (.t 18), none, [17, 18]⟩,
 ⟨(some 20), .ld1 (.t 19), none, [19]⟩,
 ⟨(some 21), .mv (.t 1), none, [1]⟩,
 ⟨(some 22), .mv (.t 5), none, [5]⟩,
 ⟨(some 23), .ia 1 (.t 21) (.t 22), none, [21, 22]⟩,
 ⟨(some 24), .ld1 (.t 23), none, [23]⟩,
 ⟨(some 25), .bin (.int .neq) (.t 20) (.t 24), none, [20, 24]⟩] [])
 (RC.cond (.t 25)
 (RC.seq (RC.reg [⟨(some 4), .mv (.c (.bool false)), none, []⟩])
 (RC.ret))
 (RC.skip))))
 (RC.reg [⟨(some 15), .mv (.t 5), none, [5]⟩,
 ⟨(some 16), .bin (.int .add) (.t 15) (.c (.int .i64 1)), none, [15]⟩,
 ⟨(some 5), .mv (.t 16), none, [16]⟩]))
def c24 : RC :=
 RC.seq (RC.reg [⟨(some 4), .mv (.c (.bool false)), none, []⟩])
 (RC.seq (RC.seq (RC.reg [⟨(some 6), .mv (.t 0), none, [0]⟩,
 ⟨(some 7), .len .slice (.t 6), none, [6]⟩,
 ⟨(some 8), .mv (.t 1), none, [1]⟩,
 ⟨(some 9), .len .slice (.t 8), none, [8]⟩,
 ⟨(some 10), .bin (.int .neq) (.t 7) (.t 9), none, [7, 9]⟩])
 (RC.cond (.t 10)
 (RC.seq (RC.reg [⟨(some 4), .mv (.c (.bool false)), none, []⟩])
 (RC.ret))
 (RC.skip)))
 (RC.seq (RC.seq (RC.reg [⟨(some 5), .mv (.c (.int .i64 0)), none, []⟩])
 (RC.block 0 (RC.loop c24l1)))
 (RC.seq (RC.reg [⟨(some 4), .mv (.c (.bool true)), none, []⟩])
 (RC.ret))))
theorem c24_ok : resK Tryz.prog Tryz.f24.ntmps (Tryz.f24.body.getD .skip) = c24 := by kernel_rfl
theorem c24_res : resR Tryz.prog Tryz.f24.ntmps Tryz.f24.results.toList = [.t 4] := by kernel_rfl
theorem c24_ctr {args : List V} {h : Heap} {K : V → Heap → Prop} (hl : Nat.ble args.length 26 = true) (H : wpC Tryz.prog c24 (RF.ofL args) h fun e r h' => e.ends ∧ ∃ vs, evR r h' [.t 4] = some vs ∧ K (oneOf vs) h') : Ctr Tryz.prog 24 args h K :=
 ctr_of_wp follows namesOk Tryz.func24 (c := Tryz.f24.body.getD .skip) (by kernel_rfl) (by kernel_rfl) hl c24_ok c24_res H
def c26 : RC :=
 RC.seq (RC.reg [⟨(some 1), .box (.t 0), none, [0]⟩,
 ⟨(some 2), .mv (.c .nilslice), none, []⟩])
 (RC.seq (RC.seq (RC.reg [⟨(some 3), .ldn 7 (.t 1), none, [1]⟩,
 ⟨(some 4), .call 47 [(.t 3)], none, [3]⟩,
 ⟨(some 5), .un .not (.t 4), none, [4]⟩])
 (RC.cond (.t 5)
 (RC.seq (RC.reg [⟨(some 2), .mv (.c .nilslice), none, []⟩])
 (RC.ret))
 (RC.skip)))
 (RC.seq (RC.reg [⟨(some 6), .ldn 7 (.t 1), none, [1]⟩,
 ⟨(some 7), .call 48 [(.t 6), (.c .nilslice)], none, [6]⟩,
 ⟨(some 8), .call 53 [(.t 7)], none, [7]⟩,
 ⟨(some 2), .mv (.t 8), none, [8]⟩])
 (RC.ret)))
theorem c26_ok : resK Tryz.prog Tryz.f26.ntmps (Tryz.f26.body.getD .skip) = c26 := by kernel_rfl
theorem c26_res : resR Tryz.prog Tryz.f26.ntmps Tryz.f26.results.toList = [.t 2] := by kernel_rfl
theorem c26_ctr {args : List V} {h : Heap} {K : V → Heap → Prop} (hl : Nat.ble args.length 9 = true) (H : wpC Tryz.prog c26 (RF.ofL args) h fun e r h' => e.ends ∧ ∃ vs, evR r h' [.t 2] = some vs ∧ K (oneOf vs) h') : Ctr Tryz.prog 26 args h K :=
 ctr_of_wp follows namesOk Tryz.func26 (c := Tryz.f26.body.getD .skip) (by kernel_rfl) (by kernel_rfl) hl c26_ok c26_res H
def c28 : RC :=
 RC.seq (RC.reg [⟨(some 1), .box (.t 0), none, [0]⟩,
 ⟨(some 2), .mv (.c .nilslice), none, []⟩])
 (RC.seq (RC.seq (RC.reg [⟨(some 3), .ldn 7 (.t 1), none, [1]⟩,
 ⟨(some 4), .call 47 [(.t 3)], none, [3]⟩,
 ⟨(some 5), .un .not (.t 4), none, [4]⟩])
 (RC.cond (.t 5)
 (RC.seq (RC.reg [⟨(some 2), .mv (.c .nilslice), none, []⟩])
 (RC.ret))
 (RC.skip)))
 (RC.seq (RC.reg [⟨(some 6), .ldn 7 (.t 1), none, [1]⟩,
 ⟨(some 7), .call 54 [(.t 6), (.c .nilslice), (.c .nilslice)], none, [6]⟩,
 ⟨(some 8), .call 53 [(.t 7)], none, [7]⟩,
 ⟨(some 2), .mv (.t 8), none, [8]⟩])
 (RC.ret)))
theorem c28_ok : resK Tryz.prog Tryz.f28.ntmps (Tryz.f28.body.getD .skip) = c28 := by kernel_rfl
theorem c28_res : resR Tryz.prog Tryz.f28.ntmps Tryz.f28.results.toList = [.t 2] := by kernel_rfl
theorem c28_ctr {args : List V} {h : Heap} {K : V → Heap → Prop} (hl : Nat.ble args.length 9 = true) (H : wpC Tryz.prog c28 (RF.ofL args) h fun e r h' => e.ends ∧ ∃ vs, evR r h' [.t 2] = some vs ∧ K (oneOf vs) h') : Ctr Tryz.prog 28 args h K :=
 ctr_of_wp follows namesOk Tryz.func28 (c := Tryz.f28.body.getD .skip) (by kernel_rfl) (by kernel_rfl) hl c28_ok c28_res H
def c30 : RC :=
 RC.seq (RC.reg [⟨(some 2), .box (.t 0), none, [0]⟩,
 ⟨(some 4), .new [(.int .i64 0), (.int .i64 0), (.int .i64 0), (.str []), .nilslice, .nilslice, .nilslice], none, []⟩,
 ⟨(some 5), .mv (.c (.int .i64 0)), none, []⟩])
 (RC.seq (RC.reg [⟨(some 8), .ldn 7 (.t 2), none, [2]⟩,
 ⟨(some 9), .call 21 [(.t 8)], none, [8]⟩,
 ⟨(some 6), .mv (.t 9), none, [9]⟩])
 (RC.seq (RC.seq (RC.reg [⟨(some 10), .mv (.t 6), none, [6]⟩,
 ⟨(some 11), .bin (.int .neq) (.t 10) (.c (.int .i64 0)), none, [10]⟩])
 (RC.cond (.t 11)
 (RC.seq (RC.reg [⟨(some 12), .build [(.int .i64 0), (.int .i64 0), (.int .i64 0), (.str []), .nilslice, .nilslice, .nilslice] [], none, []⟩,
 ⟨(some 13), .mv (.t 6), none, [6]⟩,
 ⟨none, .st 7 (.t 4) (.t 12), none, [4, 12]⟩,
 ⟨(some 5), .mv (.t 13), none, [13]⟩])
 (RC.ret))
 (RC.skip)))
 (RC.seq (RC.reg [⟨(some 14), .ldn 7 (.t 2), none, [2]⟩,
 ⟨(some 15), .call 48 [(.t 14), (.c .nilslice)], none, [14]⟩,
 ⟨(some 7), .mv (.t 15), none, [15]⟩])
 (RC.seq (RC.seq (RC.reg [⟨(some 16), .mv (.t 1), none, [1]⟩,
 ⟨(some 17), .bin (.int .lss) (.t 16) (.c (.int .i64 0)), none, [16]⟩,
 ⟨(some 18), .mv (.t 17), none, [17]⟩,
 ⟨(some 19), .mv (.t 7), (some (18, false)), [7, 18]⟩,
 ⟨(some 20), .len .slice (.t 19), (some (18, false)), [19, 18]⟩,
 ⟨(some 21), .mv (.t 1), (some (18, false)), [1, 18]⟩,
 ⟨(some 22), .bin (.int .sub) (.c (.int .i64 1048576)) (.t 21), (some (18, false)), [21, 18]⟩,
 ⟨(some 23), .bin (.int .gtr) (.t 20) (.t 22), (some (18, false)), [20, 22, 18]⟩,
 ⟨(some 24), .pick (.t 18) (.c (.bool true)) (.t 23), none, [18, 23]⟩])
 (RC.cond (.t 24)
 (RC.seq (RC.reg [⟨(some 25), .build [(.int .i64 0), (.int .i64 0), (.int .i64 0), (.str []), .nilslice, .nilslice, .nilslice] [], none, []⟩,
 ⟨none, .st 7 (.t 4) (.t 25), none, [4, 25]⟩,
 ⟨(some 5), .mv (.c (.int .i64 2)), none, []⟩])
 (RC.ret))
 (RC.skip)))
 (RC.seq (RC.reg [⟨(some 26), .ldn 7 (.t 2), none, [2]⟩,
 ⟨(some 27), .mv (.t 7), none, [7]⟩,
 ⟨(some 28), .mv (.t 1), none, [1]⟩,
 ⟨(some 29), .call 57 [(.t 26), (.t 27), (.t 28)], none, [26, 27, 28]⟩,
 ⟨none, .st 7 (.t 4) (.t 29), none, [4, 29]⟩,
 ⟨(some 5), .mv (.c (.int .i64 0)), none, []⟩])
 (RC.ret))))))
theorem c30_ok : resK Tryz.prog Tryz.f30.ntmps (Tryz.f30.body.getD .skip) = c30 := by kernel_rfl
theorem c30_res : resR Tryz.prog Tryz.f30.ntmps Tryz.f30.results.toList = [.cn 4 7, .t 5] := by kernel_rfl
theorem c30_ctr {args : List V} {h : Heap} {K : V → Heap → Prop} (hl : Nat.ble args.length 30 = true) (H : wpC Tryz.prog c30 (RF.ofL args) h fun e r h' => e.ends ∧ ∃ vs, evR r h' [.cn 4 7, .t 5] = some vs ∧ K (oneOf vs) h') : Ctr Tryz.prog 30 args h K :=
 ctr_of_wp follows namesOk Tryz.func30 (c := Tryz.f30.body.getD .skip) (by kernel_rfl) (by kernel_rfl) hl c30_ok c30_res H
def c31l1 : RC :=
 RC.seq (RC.seq (RC.reg [⟨(some 5), .mv (.t 2), none, [2]⟩,
 ⟨(some 6), .fa 4 (.t 1), none, [1]⟩,
 ⟨(some 7), .ld1 (.t 6), none, [6]⟩,
 ⟨(some 8), .len .slice (.t 7), none, [7]⟩,
 ⟨(some 9), .bin (.int .lss) (.t 5) (.t 8), none, [5, 8]⟩])
 (RC.cond (.t 9)
 (RC.skip)
 (RC.exit 0)))
 (RC.seq (RC.block 1 (RC.reg [⟨(some 12), .fa 4 (.t 1), none, [1]⟩,
 ⟨(some 13), .ld1 (.t 12), none, [12]⟩,
 ⟨(some 14), .mv (.t 2), none, [2]⟩,
 ⟨(some 15), .build [(.int .i64 0), (.int .i64 0), (.str [])] [(0, 1, (.c (.int .i64 77)))], none, []⟩,
 ⟨(some 16), .ia 3 (.t 13) (.t 14), none, [13, 14]⟩,
 ⟨none, .st 3 (.t 16) (.t 15), none, [16, 15]⟩]))
 (RC.reg [⟨(some 10), .mv (.t 2), none, [2]⟩,
 ⟨(some 11), .bin (.int .add) (.t 10) (.c (.int .i64 1)), none, [10]⟩,
 ⟨(some 2), .mv (.t 11), none, [11]⟩]))
def c31l2 : RC :=
 RC.seq (RC.seq (RC.reg [⟨(some 17), .mv (.t 3), none, [3]⟩,
 ⟨(some 18), .fa 5 (.t 1), none, [1]⟩,
 ⟨(some 19), .ld1 (.t 18), none, [18]⟩,
 ⟨(some 20), .len .slice (.t 19), none, [19]⟩,
 ⟨(some 21), .bin (.int .lss) (.t 17) (.t 20), none, [17, 20]⟩])
 (RC.cond (.t 21)
 (RC.skip)
 (RC.exit 2)))
 (RC.seq (RC.block 3 (RC.reg [⟨(some 24), .fa 5 (.t 1), none, [1]⟩,
 ⟨(some 25), .ld1 (.t 24), none, [24]⟩,
 ⟨(some 26), .mv (.t 3), none, [3]⟩,
 ⟨(some 27), .ia 1 (.t 25) (.t 26), none, [25, 26]⟩,
 ⟨none, .st 1 (.t 27) (.c (.int .i64 (-77))), none, [27]⟩]))
 (RC.reg [⟨(some 22), .mv (.t 3), none, [3]⟩,
 ⟨(some 23), .bin (.int .add) (.t 22) (.c (.int .i64 1)), none, [22]⟩,
 ⟨(some 3), .mv (.t 23), none, [23]⟩]))
def c31l3 : RC :=
 RC.seq (RC.seq (RC.reg [⟨(some 28), .mv (.t 4), none, [4]⟩,
 ⟨(some 29), .fa 6 (.t 1), none, [1]⟩,
 ⟨(some 30), .ld1 (.t 29), none, [29]⟩,
 ⟨(some 31), .len .slice (.t 30), none, [30]⟩,
 ⟨(some 32), .bin (.int .lss) (.t 28) (.t 31), none, [28, 31]⟩])
 (RC.cond (.t 32)
 (RC.skip)
 (RC.exit 4)))
 (RC.seq (RC.block 5 (RC.seq (RC.reg [⟨(some 35), .fa 6 (.t 1), none, [1]⟩,
 ⟨(some 36), .ld1 (.t 35), none, [35]⟩,
 ⟨(some 37), .mv (.t 4), none, [4]⟩,
 ⟨(some 38), .ia 7 (.t 36) (.t 37), none, [36, 37]⟩,
 ⟨(some 39), .ldn 7 (.t 38), none, [38]⟩,
 ⟨(some 40), .call 31 [(.t 39)], none, [39]⟩])
 (RC.reg [⟨(some 41), .fa 6 (.t 1), none, [1]⟩,
 ⟨(some 42), .ld1 (.t 41), none, [41]⟩,
 ⟨(some 43), .mv (.t 4), none, [4]⟩,
 ⟨(some 44), .build [(.int .i64 0), (.int .i64 0), (.int .i64 0), (.str []), .nilslice, .nilslice, .nilslice] [(0, 1, (.c (.int .i64 77)))], none, []⟩,
 ⟨(some 45), .ia 7 (.t 42) (.t 43), none, [42, 43]⟩,
 ⟨none, .st 7 (.t 45) (.t 44), none, [45, 44]⟩])))
 (RC.reg [⟨(some 33), .mv (.t 4), none, [4]⟩,
 ⟨(some 34), .bin (.int .add) (.t 33) (.c (.int .i64 1)), none, [33]⟩,
 ⟨(some 4), .mv (.t 34), none, [34]⟩]))
def c31 : RC :=
 RC.seq (RC.reg [⟨(some 1), .box (.t 0), none, [0]⟩])
 (RC.seq (RC.seq (RC.reg [⟨(some 2), .mv (.c (.int .i64 0)), none, []⟩])
 (RC.block 0 (RC.loop c31l1)))
 (RC.seq (RC.seq (RC.reg [⟨(some 3), .mv (.c (.int .i64 0)), none, []⟩])
 (RC.block 2 (RC.loop c31l2)))
 (RC.seq (RC.reg [⟨(some 4), .mv (.c (.int .i64 0)), none, []⟩])
 (RC.block 4 (RC.loop c31l3)))))
theorem c31_ok : resK Tryz.prog Tryz.f31.ntmps (Tryz.f31.body.getD .skip) = c31 := by kernel_rfl
theorem c31_res : resR Tryz.prog Tryz.f31.ntmps Tryz.f31.results.toList = [] := by kernel_rfl
theorem c31_ctr {args : List V} {h : Heap} {K : V → Heap → Prop} (hl : Nat.ble args.length 46 = true) (H : wpC Tryz.prog c31 (RF.ofL args) h fun e r h' => e.ends ∧ ∃ vs, evR r h' [] = some vs ∧ K (oneOf vs) h') : Ctr Tryz.prog 31 args h K :=
 ctr_of_wp follows namesOk Tryz.func31 (c := Tryz.f31.body.getD .skip) (by kernel_rfl) (by kernel_rfl) hl c31_ok c31_res H
def c39l1 : RC :=
 RC.seq (RC.seq (RC.reg [⟨(some 21), .mv (.t 6), none, [6]⟩,
 ⟨(some 22), .fa 4 (.t 2), none, [2]⟩,
 ⟨(some 23), .ld1 (.t 22), none, [22]⟩,
 ⟨(some 24), .len .slice (.t 23), none, [23]⟩,
 ⟨(some 25), .bin (.int .lss) (.t 21) (.t 24), none, [21, 24]⟩])
 (RC.cond (.t 25)
 (RC.skip)
 (RC.exit 0)))
 (RC.seq (RC.block 1 (RC.reg [⟨(some 28), .mv (.t 5), none, [5]⟩,
 ⟨(some 29), .fa 4 (.t 2), none, [2]⟩,
 ⟨(some 30), .ld1 (.t 29), none, [29]⟩,
 ⟨(some 31), .mv (.t 6), none, [6]⟩,
 ⟨(some 32), .ia 3 (.t 30) (.t 31), none, [30, 31]⟩,
 ⟨(some 33), .fa 2 (.t 32), none, [32]⟩,
 ⟨(some 34), .ld1 (.t 33), none, [33]⟩,
 ⟨(some 35), .len .str (.t 34), none, [34]⟩,
 ⟨(some 36), .bin (.int .quo) (.t 35) (.c (.int .i64 100)), none, [35]⟩,
 ⟨(some 37), .bin (.int .add) (.t 28) (.t 36), none, [28, 36]⟩,
 ⟨(some 5), .mv (.t 37), none, [37]⟩]))
 (RC.reg [⟨(some 26), .mv (.t 6), none, [6]⟩,
 ⟨(some 27), .bin (.int .add) (.t 26) (.c (.int .i64 1)), none, [26]⟩,
 ⟨(some 6), .mv (.t 27), none, [27]⟩]))
def c39l2 : RC :=
 RC.seq (RC.seq (RC.reg [⟨(some 38), .mv (.t 7), none, [7]⟩,
 ⟨(some 39), .fa 6 (.t 2), none, [2]⟩,
 ⟨(some 40), .ld1 (.t 39), none, [39]⟩,
 ⟨(some 41), .len .slice (.t 40), none, [40]⟩,
 ⟨(some 42), .bin (.int .lss) (.t 38) (.t 41), none, [38, 41]⟩,
 ⟨(some 43), .mv (.t 42), none, [42]⟩,
 ⟨(some 44), .mv (.t 5), (some (43, true)), [5, 43]⟩,
 ⟨(some 45), .mv (.t 1), (some (43, true)), [1, 43]⟩,
 ⟨(some 46), .bin (.int .leq) (.t 44) (.t 45), (some (43, true)), [44, 45, 43]⟩,
 ⟨(some 47), .pick (.t 43) (.t 46) (.c (.bool false)), none, [43, 46]⟩])
 (RC.cond (.t 47)
 (RC.skip)
 (RC.exit 2)))
 (RC.seq (RC.block 3 (RC.reg [⟨(some 50), .mv (.t 5), none, [5]⟩,
 ⟨(some 51), .fa 6 (.t 2), none, [2]⟩,
 ⟨(some 52), .ld1 (.t 51), none, [51]⟩,
 ⟨(some 53), .mv (.t 7), none, [7]⟩,
 ⟨(some 54), .ia 7 (.t 52) (.t 53), none, [52, 53]⟩,
 ⟨(some 55), .ldn 7 (.t 54), none, [54]⟩,
 ⟨(some 56), .mv (.t 1), none, [1]⟩,
 ⟨(some 57), .mv (.t 5), none, [5]⟩,
 ⟨(some 58), .bin (.int .sub) (.t 56) (.t 57), none, [56, 57]⟩,
 ⟨(some 59), .call 39 [(.t 55), (.t 58)], none, [55, 58]⟩,
 ⟨(some 60), .bin (.int .add) (.t 50) (.t 59), none, [50, 59]⟩,
 ⟨(some 5), .mv (.t 60), none, [60]⟩]))
 (RC.reg [⟨(some 48), .mv (.t 7), none, [7]⟩,
 ⟨(some 49), .bin (.int .add) (.t 48) (.c (.int .i64 1)), none, [48]⟩,
 ⟨(some 7), .mv (.t 49), none, [49]⟩]))
def c39 : RC :=
 RC.seq (RC.reg [⟨(some 2), .box (.t 0), none, [0]⟩,
 ⟨(some 4), .mv (.c (.int .i64 0)), none, []⟩])
 (RC.seq (RC.reg [⟨(some 8), .fa 4 (.t 2), none, [2]⟩,
 ⟨(some 9), .ld1 (.t 8), none, [8]⟩,
 ⟨(some 10), .len .slice (.t 9), none, [9]⟩,
 ⟨(some 11), .bin (.int .add) (.c (.int .i64 1)) (.t 10), none, [10]⟩,
 ⟨(some 12), .fa 5 (.t 2), none, [2]⟩,
 ⟨(some 13), .ld1 (.t 12), none, [12]⟩,
 ⟨(some 14), .len .slice (.t 13), none, [13]⟩,
 ⟨(some 15), .bin (.int .add) (.t 11) (.t 14), none, [11, 14]⟩,
 ⟨(some 16), .fa 3 (.t 2), none, [2]⟩,
 ⟨(some 17), .ld1 (.t 16), none, [16]⟩,
 ⟨(some 18), .len .str (.t 17), none, [17]⟩,
 ⟨(some 19), .bin (.int .quo) (.t 18) (.c (.int .i64 100)), none, [18]⟩,
 ⟨(some 20), .bin (.int .add) (.t 15) (.t 19), none, [15, 19]⟩,
 ⟨(some 5), .mv (.t 20), none, [20]⟩])
 (RC.seq (RC.seq (RC.reg [⟨(some 6), .mv (.c (.int .i64 0)), none, []⟩])
 (RC.block 0 (RC.loop c39l1)))
 (RC.seq (RC.seq (RC.reg [⟨(some 7), .mv (.c (.int .i64 0)), none, []⟩])
 (RC.block 2 (RC.loop c39l2)))
 (RC.seq (RC.reg [⟨(some 61), .mv (.t 5), none, [5]⟩,
 ⟨(some 4), .mv (.t 61), none, [61]⟩])
 (RC.ret)))))
theorem c39_ok : resK Tryz.prog Tryz.f39.ntmps (Tryz.f39.body.getD .skip) = c39 := by kernel_rfl
theorem c39_res : resR Tryz.prog Tryz.f39.ntmps Tryz.f39.results.toList = [.t 4] := by kernel_rfl
theorem c39_ctr {args : List V} {h : Heap} {K : V → Heap → Prop} (hl : Nat.ble args.length 62 = true) (H : wpC Tryz.prog c39 (RF.ofL args) h fun e r h' => e.ends ∧ ∃ vs, evR r h' [.t 4] = some vs ∧ K (oneOf vs) h') : Ctr Tryz.prog 39 args h K :=
 ctr_of_wp follows namesOk Tryz.func39 (c := Tryz.f39.body.getD .skip) (by kernel_rfl) (by kernel_rfl) hl c39_ok c39_res H
def c42l1 : RC :=
 RC.seq (RC.seq (RC.reg [⟨(some 11), .mv (.t 5), none, [5]⟩,
 ⟨(some 12), .mv (.t 0), none, [0]⟩,
 ⟨(some 13), .len .slice (.t 12), none, [12]⟩,
 ⟨(some 14), .bin (.int .lss) (.t 11) (.t 13), none, [11, 13]⟩])
 (RC.cond (.t 14)
 (RC.skip)
 (RC.exit 0)))
 (RC.seq (RC.block 1 (RC.seq (RC.draw [⟨(some 17), .mv (.t 0), none, [0]⟩,
 ⟨(some 18), .mv (.t 5), none, [5]⟩,
 ⟨(some 19), .ia 3 (.t 17) (.t 18), none, [17, 18]⟩,
 ⟨(some 20), .ldn 3 (.t 19), none, [19]⟩,
 ⟨(some 21), .mv (.t 1), none, [1]⟩,
 ⟨(some 22), .mv (.t 5), none, [5]⟩,
 ⟨(some 23), .ia 3 (.t 21) (.t 22), none, [21, 22]⟩,
 ⟨(some 24), .ldn 3 (.t 23), none, [23]⟩,
 ⟨(some 25), .bin (.other .neq 41) (.t 20) (.t 24), none, [20, 24]⟩] [])
 (RC.cond (.t 25)
 (RC.seq (RC.reg [⟨(some 4), .mv (.c (.bool false)), none, []⟩])
 (RC.ret))
 (RC.skip))))
 (RC.reg [⟨(some 15), .mv (.t 5), none, [5]⟩,
 ⟨(some 16), .bin (.int .add) (.t 15) (.c (.int .i64 1)), none, [15]⟩,
 ⟨(some 5), .mv (.t 16), none, [16]⟩]))
def c42 : RC :=
 RC.seq (RC.reg [⟨(some 4), .mv (.c (.bool false)), none, []⟩])
 (RC.seq (RC.seq (RC.reg [⟨(some 6), .mv (.t 0), none, [0]⟩,
 ⟨(some 7), .len .slice (.t 6), none, [6]⟩,
 ⟨(some 8), .mv (.t 1), none, [1]⟩,
 ⟨(some 9), .len .slice (.t 8), none, [8]⟩,
 ⟨(some 10), .bin (.int .neq) (.t 7) (.t 9), none, [7, 9]⟩])
 (RC.cond (.t 10)
 (RC.seq (RC.reg [⟨(some 4), .mv (.c (.bool false)), none, []⟩])
 (RC.ret))
 (RC.skip)))
 (RC.seq (RC.seq (RC.reg [⟨(some 5), .mv (.c (.int .i64 0)), none, []⟩])
 (RC.block 0 (RC.loop c42l1)))
 (RC.seq (RC.reg [⟨(some 4), .mv (.c (.bool true)), none, []⟩])
 (RC.ret))))
theorem c42_ok : resK Tryz.prog Tryz.f42.ntmps (Tryz.f42.body.getD .skip) = c42 := by kernel_rfl
theorem c42_res : resR Tryz.prog Tryz.f42.ntmps Tryz.f42.results.toList = [.t 4] := by kernel_rfl
theorem c42_ctr {args : List V} {h : Heap} {K : V → Heap → Prop} (hl : Nat.ble args.length 26 = true) (H : wpC Tryz.prog c42 (RF.ofL args) h fun e r h' => e.ends ∧ ∃ vs, evR r h' [.t 4] = some vs ∧ K (oneOf vs) h') : Ctr Tryz.prog 42 args h K :=
 ctr_of_wp follows namesOk Tryz.func42 (c := Tryz.f42.body.getD .skip) (by kernel_rfl) (by kernel_rfl) hl c42_ok c42_res H
def c43l1 : RC :=
 RC.seq (RC.seq (RC.reg [⟨(some 11), .mv (.t 5), none, [5]⟩,
 ⟨(some 12), .mv (.t 0), none, [0]⟩,
 ⟨(some 13), .len .slice (.t 12), none, [12]⟩,
 ⟨(some 14), .bin (.int .lss) (.t 11) (.t 13), none, [11, 13]⟩])
 (RC.cond (.t 14)
 (RC.skip)
 (RC.exit 0)))
 (RC.seq (RC.block 1 (RC.seq (RC.draw [⟨(some 17), .mv (.t 0), none, [0]⟩,
 ⟨(some 18), .mv (.t 5), none, [5]⟩,
 ⟨(some 19), .ia 7 (.t 17) (.t 18), none, [17, 18]⟩,
 ⟨(some 20), .ldn 7 (.t 19), none, [19]⟩,
 ⟨(some 21), .mv (.t 1), none, [1]⟩,
 ⟨(some 22), .mv (.t 5), none, [5]⟩,
 ⟨(some 23), .ia 7 (.t 21) (.t 22), none, [21, 22]⟩,
 ⟨(some 24), .ldn 7 (.t 23), none, [23]⟩,
 ⟨(some 25), .call 16 [(.t 20), (.t 24)], none, [20, 24]⟩,
 ⟨(some 26), .un .not (.t 25), none, [25]⟩] [(3, [8]), (7, [8])])
 (RC.cond (.t 26)
 (RC.seq (RC.reg [⟨(some 4), .mv (.c (.bool false)), none, []⟩])
 (RC.ret))
 (RC.skip))))
 (RC.reg [⟨(some 15), .mv (.t 5), none, [5]⟩,
 ⟨(some 16), .bin (.int .add) (.t 15) (.c (.int .i64 1)), none, [15]⟩,
 ⟨(some 5), .mv (.t 16), none, [16]⟩]))
def c43 : RC :=
 RC.seq (RC.reg [⟨(some 4), .mv (.c (.bool false)), none, []⟩])
 (RC.seq (RC.seq (RC.reg [⟨(some 6), .mv (.t 0), none, [0]⟩,
 ⟨(some 7), .len .slice (.t 6), none, [6]⟩,
 ⟨(some 8), .mv (.t 1), none, [1]⟩,
 ⟨(some 9), .len .slice (.t 8), none, [8]⟩,
 ⟨(some 10), .bin (.int .neq) (.t 7) (.t 9), none, [7, 9]⟩])
 (RC.cond (.t 10)
 (RC.seq (RC.reg [⟨(some 4), .mv (.c (.bool false)), none, []⟩])
 (RC.ret))
 (RC.skip)))
 (RC.seq (RC.seq (RC.reg [⟨(some 5), .mv (.c (.int .i64 0)), none, []⟩])
 (RC.block 0 (RC.loop c43l1)))
 (RC.seq (RC.reg [⟨(some 4), .mv (.c (.bool true)), none, []⟩])
 (RC.ret))))
theorem c43_ok : resK Tryz.prog Tryz.f43.ntmps (Tryz.f43.body.getD .skip) = c43 := by kernel_rfl
theorem c43_res : resR Tryz.prog Tryz.f43.ntmps Tryz.f43.results.toList = [.t 4] := by kernel_rfl
theorem c43_ctr {args : List V} {h : Heap} {K : V → Heap → Prop} (hl : Nat.ble args.length 27 = true) (H : wpC Tryz.prog c43 (RF.ofL args) h fun e r h' => e.ends ∧ ∃ vs, evR r h' [.t 4] = some vs ∧ K (oneOf vs) h') : Ctr Tryz.prog 43 args h K :=
 ctr_of_wp follows namesOk Tryz.func43 (c := Tryz.f43.body.getD .skip) (by kernel_rfl) (by kernel_rfl) hl c43_ok c43_res H
def c47l1 : RC :=
 RC.seq (RC.seq (RC.reg [⟨(some 23), .mv (.t 3), none, [3]⟩,
 ⟨(some 24), .fa 6 (.t 1), none, [1]⟩,
 ⟨(some 25), .ld1 (.t 24), none, [24]⟩,
 ⟨(some 26), .len .slice (.t 25), none, [25]⟩,
 ⟨(some 27), .bin (.int .sub) (.t 26) (.c (.int .i64 1)), none, [26]⟩,
 ⟨(some 28), .bin (.int .lss) (.t 23) (.t 27), none, [23, 27]⟩])
 (RC.cond (.t 28)
 (RC.skip)
 (RC.exit 0)))
 (RC.seq (RC.block 1 (RC.seq (RC.reg [⟨(some 31), .fa 6 (.t 1), none, [1]⟩,
 ⟨(some 32), .ld1 (.t 31), none, [31]⟩,
 ⟨(some 33), .mv (.t 3), none, [3]⟩,
 ⟨(some 34), .ia 7 (.t 32) (.t 33), none, [32, 33]⟩,
 ⟨(some 35), .ldn 7 (.t 34), none, [34]⟩,
 ⟨(some 36), .call 70 [(.t 35), (.c (.bool true))], none, [35]⟩,
 ⟨(some 37), .un .not (.t 36), none, [36]⟩,
 ⟨(some 38), .mv (.t 37), none, [37]⟩,
 ⟨(some 39), .fa 6 (.t 1), (some (38, false)), [1, 38]⟩,
 ⟨(some 40), .ld1 (.t 39), (some (38, false)), [39, 38]⟩,
 ⟨(some 41), .mv (.t 3), (some (38, false)), [3, 38]⟩,
 ⟨(some 42), .ia 7 (.t 40) (.t 41), (some (38, false)), [40, 41, 38]⟩,
 ⟨(some 43), .fa 6 (.t 42), (some (38, false)), [42, 38]⟩,
 ⟨(some 44), .ld1 (.t 43), (some (38, false)), [43, 38]⟩,
 ⟨(some 45), .ia 7 (.t 44) (.c (.int .i64 0)), (some (38, false)), [44, 38]⟩,
 ⟨(some 46), .ldn 7 (.t 45), (some (38, false)), [45, 38]⟩,
 ⟨(some 47), .call 47 [(.t 46)], (some (38, false)), [46, 38]⟩,
 ⟨(some 48), .un .not (.t 47), (some (38, false)), [47, 38]⟩,
 ⟨(some 49), .pick (.t 38) (.c (.bool true)) (.t 48), none, [38, 48]⟩])
 (RC.cond (.t 49)
 (RC.seq (RC.reg [⟨(some 2), .mv (.c (.bool false)), none, []⟩])
 (RC.ret))
 (RC.skip))))
 (RC.reg [⟨(some 29), .mv (.t 3), none, [3]⟩,
 ⟨(some 30), .bin (.int .add) (.t 29) (.c (.int .i64 1)), none, [29]⟩,
 ⟨(some 3), .mv (.t 30), none, [30]⟩]))
def c47l2 : RC :=
 RC.seq (RC.seq (RC.reg [⟨(some 67), .mv (.t 4), none, [4]⟩,
 ⟨(some 68), .fa 6 (.t 1), none, [1]⟩,
 ⟨(some 69), .ld1 (.t 68), none, [68]⟩,
 ⟨(some 70), .len .slice (.t 69), none, [69]⟩,
 ⟨(some 71), .bin (.int .lss) (.t 67) (.t 70), none, [67, 70]⟩])
 (RC.cond (.t 71)
 (RC.skip)
 (RC.exit 2)))
 (RC.seq (RC.block 3 (RC.seq (RC.reg [⟨(some 74), .fa 6 (.t 1), none, [1]⟩,
 ⟨(some 75), .ld1 (.t 74), none, [74]⟩,
 ⟨(some 76), .mv (.t 4), none, [4]⟩,
 ⟨(some 77), .ia 7 (.t 75) (.t 76), none, [75, 76]⟩,
 ⟨(some 78), .ldn 7 (.t 77), none, [77]⟩,
 ⟨(some 79), .call 47 [(.t 78)], none, [78]⟩,
 ⟨(some 80), .un .not (.t 79), none, [79]⟩])
 (RC.cond (.t 80)
 (RC.seq (RC.reg [⟨(some 2), .mv (.c (.bool false)), none, []⟩])
 (RC.ret))
 (RC.skip))))
 (RC.reg [⟨(some 72), .mv (.t 4), none, [4]⟩,
 ⟨(some 73), .bin (.int .add) (.t 72) (.c (.int .i64 1)), none, [72]⟩,
 ⟨(some 4), .mv (.t 73), none, [73]⟩]))
def c47 : RC :=
 RC.seq (RC.reg [⟨(some 1), .box (.t 0), none, [0]⟩,
 ⟨(some 2), .mv (.c (.bool false)), none, []⟩])
 (RC.seq (RC.seq (RC.reg [⟨(some 5), .fa 0 (.t 1), none, [1]⟩,
 ⟨(some 6), .ld1 (.t 5), none, [5]⟩,
 ⟨(some 7), .bin (.int .eql) (.t 6) (.c (.int .i64 8)), none, [6]⟩])
 (RC.cond (.t 7)
 (RC.seq (RC.seq (RC.reg [⟨(some 8), .ldn 7 (.t 1), none, [1]⟩,
 ⟨(some 9), .call 69 [(.t 8), (.c (.bool false)), (.c (.bool false)), (.c (.bool false)), (.c (.bool false))], none, [8]⟩,
 ⟨(some 10), .un .not (.t 9), none, [9]⟩,
 ⟨(some 11), .mv (.t 10), none, [10]⟩,
 ⟨(some 12), .fa 4 (.t 1), (some (11, false)), [1, 11]⟩,
 ⟨(some 13), .ld1 (.t 12), (some (11, false)), [12, 11]⟩,
 ⟨(some 14), .len .slice (.t 13), (some (11, false)), [13, 11]⟩,
 ⟨(some 15), .bin (.int .gtr) (.t 14) (.c (.int .i64 0)), (some (11, false)), [14, 11]⟩,
 ⟨(some 16), .pick (.t 11) (.c (.bool true)) (.t 15), none, [11, 15]⟩,
 ⟨(some 17), .mv (.t 16), none, [16]⟩,
 ⟨(some 18), .fa 6 (.t 1), (some (17, false)), [1, 17]⟩,
 ⟨(some 19), .ld1 (.t 18), (some (17, false)), [18, 17]⟩,
 ⟨(some 20), .len .slice (.t 19), (some (17, false)), [19, 17]⟩,
 ⟨(some 21), .bin (.int .lss) (.t 20) (.c (.int .i64 2)), (some (17, false)), [20, 17]⟩,
 ⟨(some 22), .pick (.t 17) (.c (.bool true)) (.t 21), none, [17, 21]⟩])
 (RC.cond (.t 22)
 (RC.seq (RC.reg [⟨(some 2), .mv (.c (.bool false)), none, []⟩])
 (RC.ret))
 (RC.skip)))
 (RC.seq (RC.seq (RC.reg [⟨(some 3), .mv (.c (.int .i64 0)), none, []⟩])
 (RC.block 0 (RC.loop c47l1)))
 (RC.seq (RC.reg [⟨(some 50), .fa 6 (.t 1), none, [1]⟩,
 ⟨(some 51), .ld1 (.t 50), none, [50]⟩,
 ⟨(some 52), .fa 6 (.t 1), none, [1]⟩,
 ⟨(some 53), .ld1 (.t 52), none, [52]⟩,
 ⟨(some 54), .len .slice (.t 53), none, [53]⟩,
 ⟨(some 55), .bin (.int .sub) (.t 54) (.c (.int .i64 1)), none, [54]⟩,
 ⟨(some 56), .ia 7 (.t 51) (.t 55), none, [51, 55]⟩,
 ⟨(some 57), .ldn 7 (.t 56), none, [56]⟩,
 ⟨(some 58), .call 47 [(.t 57)], none, [57]⟩,
 ⟨(some 2), .mv (.t 58), none, [58]⟩])
 (RC.ret))))
 (RC.skip)))
 (RC.seq (RC.seq (RC.reg [⟨(some 59), .ldn 7 (.t 1), none, [1]⟩,
 ⟨(some 60), .call 71 [(.t 59)], none, [59]⟩,
 ⟨(some 61), .un .not (.t 60), none, [60]⟩,
 ⟨(some 62), .mv (.t 61), none, [61]⟩,
 ⟨(some 63), .ldn 7 (.t 1), (some (62, true)), [1, 62]⟩,
 ⟨(some 64), .call 70 [(.t 63), (.c (.bool false))], (some (62, true)), [63, 62]⟩,
 ⟨(some 65), .un .not (.t 64), (some (62, true)), [64, 62]⟩,
 ⟨(some 66), .pick (.t 62) (.t 65) (.c (.bool false)), none, [62, 65]⟩])
 (RC.cond (.t 66)
 (RC.seq (RC.reg [⟨(some 2), .mv (.c (.bool false)), none, []⟩])
 (RC.ret))
 (RC.skip)))
 (RC.seq (RC.seq (RC.reg [⟨(some 4), .mv (.c (.int .i64 0)), none, []⟩])
 (RC.block 2 (RC.loop c47l2)))
 (RC.seq (RC.reg [⟨(some 2), .mv (.c (.bool true)), none, []⟩])
 (RC.ret)))))
theorem c47_ok : resK Tryz.prog Tryz.f47.ntmps (Tryz.f47.body.getD .skip) = c47 := by kernel_rfl
theorem c47_res : resR Tryz.prog Tryz.f47.ntmps Tryz.f47.results.toList = [.t 2] := by kernel_rfl
theorem c47_ctr {args : List V} {h : Heap} {K : V → Heap → Prop} (hl : Nat.ble args.length 81 = true) (H : wpC Tryz.prog c47 (RF.ofL args) h fun e r h' => e.ends ∧ ∃ vs, evR r h' [.t 2] = some vs ∧ K (oneOf vs) h') : Ctr Tryz.prog 47 args h K :=
 ctr_of_wp follows namesOk Tryz.func47 (c := Tryz.f47.body.getD .skip) (by kernel_rfl) (by kernel_rfl) hl c47_ok c47_res H
def c48l1 : RC :=
 RC.seq (RC.seq (RC.reg [⟨(some 37), .mv (.t 5), none, [5]⟩,
 ⟨(some 38), .fa 6 (.t 2), none, [2]⟩,
 ⟨(some 39), .ld1 (.t 38), none, [38]⟩,
 ⟨(some 40), .len .slice (.t 39), none, [39]⟩,
 ⟨(some 41), .bin (.int .sub) (.t 40) (.c (.int .i64 1)), none, [40]⟩,
 ⟨(some 42), .bin (.int .lss) (.t 37) (.t 41), none, [37, 41]⟩])
 (RC.cond (.t 42)
 (RC.skip)
 (RC.exit 1)))
 (RC.seq (RC.block 2 (RC.reg [⟨(some 45), .mv (.t 1), none, [1]⟩,
 ⟨(some 46), .fa 6 (.t 2), none, [2]⟩,
 ⟨(some 47), .ld1 (.t 46), none, [46]⟩,
 ⟨(some 48), .mv (.t 5), none, [5]⟩,
 ⟨(some 49), .ia 7 (.t 47) (.t 48), none, [47, 48]⟩,
 ⟨(some 50), .fa 2 (.t 49), none, [49]⟩,
 ⟨(some 51), .ld1 (.t 50), none, [50]⟩,
 ⟨(some 52), .bsl 1 1 [(.int .i64 0)] [(0, 1, (.t 51))], none, [51]⟩,
 ⟨(some 53), .app 1 (.t 45) (.t 52), none, [45, 52]⟩,
 ⟨(some 1), .mv (.t 53), none, [53]⟩]))
 (RC.reg [⟨(some 43), .mv (.t 5), none, [5]⟩,
 ⟨(some 44), .bin (.int .add) (.t 43) (.c (.int .i64 1)), none, [43]⟩,
 ⟨(some 5), .mv (.t 44), none, [44]⟩]))
def c48l2 : RC :=
 RC.seq (RC.seq (RC.reg [⟨(some 54), .mv (.t 6), none, [6]⟩,
 ⟨(some 55), .fa 6 (.t 2), none, [2]⟩,
 ⟨(some 56), .ld1 (.t 55), none, [55]⟩,
 ⟨(some 57), .len .slice (.t 56), none, [56]⟩,
 ⟨(some 58), .bin (.int .lss) (.t 54) (.t 57), none, [54, 57]⟩])
 (RC.cond (.t 58)
 (RC.skip)
 (RC.exit 3)))
 (RC.seq (RC.block 4 (RC.reg [⟨(some 61), .fa 6 (.t 2), none, [2]⟩,
 ⟨(some 62), .ld1 (.t 61), none, [61]⟩,
 ⟨(some 63), .mv (.t 6), none, [6]⟩,
 ⟨(some 64), .ia 7 (.t 62) (.t 63), none, [62, 63]⟩,
 ⟨(some 65), .ldn 7 (.t 64), none, [64]⟩,
 ⟨(some 66), .mv (.t 1), none, [1]⟩,
 ⟨(some 67), .call 48 [(.t 65), (.t 66)], none, [65, 66]⟩,
 ⟨(some 1), .mv (.t 67), none, [67]⟩]))
 (RC.reg [⟨(some 59), .mv (.t 6), none, [6]⟩,
 ⟨(some 60), .bin (.int .add) (.t 59) (.c (.int .i64 1)), none, [59]⟩,
 ⟨(some 6), .mv (.t 60), none, [60]⟩]))
def c48 : RC :=
 RC.seq (RC.reg [⟨(some 2), .box (.t 0), none, [0]⟩,
 ⟨(some 4), .mv (.c .nilslice), none, []⟩])
 (RC.seq (RC.seq (RC.reg [⟨(some 7), .fa 0 (.t 2), none, [2]⟩,
 ⟨(some 8), .ld1 (.t 7), none, [7]⟩])
 (RC.block 0 (RC.seq (RC.seq (RC.reg [⟨(some 10), .bin (.int .eql) (.t 8) (.c (.int .i64 2)), none, [8]⟩,
 ⟨(some 9), .mv (.t 10), none, [10]⟩])
 (RC.cond (.t 9)
 (RC.skip)
 (RC.reg [⟨(some 11), .bin (.int .eql) (.t 8) (.c (.int .i64 11)), none, [8]⟩,
 ⟨(some 9), .mv (.t 11), none, [11]⟩])))
 (RC.cond (.t 9)
 (RC.seq (RC.reg [⟨(some 12), .fa 6 (.t 2), none, [2]⟩,
 ⟨(some 13), .ld1 (.t 12), none, [12]⟩,
 ⟨(some 14), .ia 7 (.t 13) (.c (.int .i64 0)), none, [13]⟩,
 ⟨(some 15), .ldn 7 (.t 14), none, [14]⟩,
 ⟨(some 16), .mv (.t 1), none, [1]⟩,
 ⟨(some 17), .call 48 [(.t 15), (.t 16)], none, [15, 16]⟩,
 ⟨(some 1), .mv (.t 17), none, [17]⟩])
 (RC.seq (RC.draw [⟨(some 18), .fa 6 (.t 2), none, [2]⟩,
 ⟨(some 19), .ld1 (.t 18), none, [18]⟩,
 ⟨(some 20), .ia 7 (.t 19) (.c (.int .i64 1)), none, [19]⟩,
 ⟨(some 21), .ldn 7 (.t 20), none, [20]⟩,
 ⟨(some 22), .mv (.t 1), none, [1]⟩,
 ⟨(some 23), .fa 1 (.t 2), none, [2]⟩,
 ⟨(some 24), .ld1 (.t 23), none, [23]⟩,
 ⟨(some 25), .bsl 1 1 [(.int .i64 0)] [(0, 1, (.t 24))], none, [24]⟩,
 ⟨(some 26), .app 1 (.t 22) (.t 25), none, [22, 25]⟩,
 ⟨(some 27), .call 48 [(.t 21), (.t 26)], none, [21, 26]⟩,
 ⟨(some 4), .mv (.t 27), none, [27]⟩] [(1, [8, 9]), (3, [8, 9]), (6, [8])])
 (RC.ret)))
 (RC.seq (RC.reg [⟨(some 29), .bin (.int .eql) (.t 8) (.c (.int .i64 7)), none, [8]⟩,
 ⟨(some 28), .mv (.t 29), none, [29]⟩])
 (RC.cond (.t 28)
 (RC.reg [⟨(some 30), .mv (.t 1), none, [1]⟩,
 ⟨(some 31), .fa 1 (.t 2), none, [2]⟩,
 ⟨(some 32), .ld1 (.t 31), none, [31]⟩,
 ⟨(some 33), .bsl 1 1 [(.int .i64 0)] [(0, 1, (.t 32))], none, [32]⟩,
 ⟨(some 34), .app 1 (.t 30) (.t 33), none, [30, 33]⟩,
 ⟨(some 1), .mv (.t 34), none, [34]⟩])
 (RC.seq (RC.reg [⟨(some 36), .bin (.int .eql) (.t 8) (.c (.int .i64 8)), none, [8]⟩,
 ⟨(some 35), .mv (.t 36), none, [36]⟩])
 (RC.cond (.t 35)
 (RC.seq (RC.reg [⟨(some 5), .mv (.c (.int .i64 0)), none, []⟩])
 (RC.block 1 (RC.loop c48l1)))
 (RC.skip)))))))))
 (RC.seq (RC.seq (RC.reg [⟨(some 6), .mv (.c (.int .i64 0)), none, []⟩])
 (RC.block 3 (RC.loop c48l2)))
 (RC.seq (RC.reg [⟨(some 68), .mv (.t 1), none, [1]⟩,
 ⟨(some 4), .mv (.t 68), none, [68]⟩])
 (RC.ret))))
theorem c48_ok : resK Tryz.prog Tryz.f48.ntmps (Tryz.f48.body.getD .skip) = c48 := by kernel_rfl
theorem c48_res : resR Tryz.prog Tryz.f48.ntmps Tryz.f48.results.toList = [.t 4] := by kernel_rfl
theorem c48_ctr {args : List V} {h : Heap} {K : V → Heap → Prop} (hl : Nat.ble args.length 69 = true) (H : wpC Tryz.prog c48 (RF.ofL args) h fun e r h' => e.ends ∧ ∃ vs, evR r h' [.t 4] = some vs ∧ K (oneOf vs) h') : Ctr Tryz.prog 48 args h K :=
 ctr_of_wp follows namesOk Tryz.func48 (c := Tryz.f48.body.getD .skip) (by kernel_rfl) (by kernel_rfl) hl c48_ok c48_res H
def c53l1 : RC :=
 RC.seq (RC.seq (RC.draw [⟨(some 13), .mv (.t 5), none, [5]⟩,
 ⟨(some 14), .mv (.t 3), none, [3]⟩,
 ⟨(some 15), .len .slice (.t 14), none, [14]⟩,
 ⟨(some 16), .bin (.int .lss) (.t 13) (.t 15), none, [13, 15]⟩,
 ⟨(some 17), .mv (.t 16), none, [16]⟩,
 ⟨(some 18), .mv (.t 3), (some (17, true)), [3, 17]⟩,
 ⟨(some 19), .mv (.t 5), (some (17, true)), [5, 17]⟩,
 ⟨(some 20), .ia 1 (.t 18) (.t 19), (some (17, true)), [18, 19, 17]⟩,
 ⟨(some 21), .ld1 (.t 20), (some (17, true)), [20, 17]⟩,
 ⟨(some 22), .mv (.t 0), (some (17, true)), [0, 17]⟩,
 ⟨(some 23), .mv (.t 4), (some (17, true)), [4, 17]⟩,
 ⟨(some 24), .ia 1 (.t 22) (.t 23), (some (17, true)), [22, 23, 17]⟩,
 ⟨(some 25), .ld1 (.t 24), (some (17, true)), [24, 17]⟩,
 ⟨(some 26), .bin (.int .lss) (.t 21) (.t 25), (some (17, true)), [21, 25, 17]⟩,
 ⟨(some 27), .pick (.t 17) (.t 26) (.c (.bool false)), none, [17, 26]⟩] [])
 (RC.cond (.t 27)
 (RC.skip)
 (RC.exit 2)))
 (RC.block 3 (RC.reg [⟨(some 28), .mv (.t 5), none, [5]⟩,
 ⟨(some 29), .bin (.int .add) (.t 28) (.c (.int .i64 1)), none, [28]⟩,
 ⟨(some 5), .mv (.t 29), none, [29]⟩]))
def c53l2 : RC :=
 RC.seq (RC.seq (RC.reg [⟨(some 7), .mv (.t 4), none, [4]⟩,
 ⟨(some 8), .mv (.t 0), none, [0]⟩,
 ⟨(some 9), .len .slice (.t 8), none, [8]⟩,
 ⟨(some 10), .bin (.int .lss) (.t 7) (.t 9), none, [7, 9]⟩])
 (RC.cond (.t 10)
 (RC.skip)
 (RC.exit 0)))
 (RC.seq (RC.block 1 (RC.seq (RC.reg [⟨(some 5), .mv (.c (.int .i64 0)), none, []⟩])
 (RC.seq (RC.block 2 (RC.loop c53l1))
 (RC.seq (RC.seq (RC.draw [⟨(some 30), .mv (.t 5), none, [5]⟩,
 ⟨(some 31), .mv (.t 3), none, [3]⟩,
 ⟨(some 32), .len .slice (.t 31), none, [31]⟩,
 ⟨(some 33), .bin (.int .lss) (.t 30) (.t 32), none, [30, 32]⟩,
 ⟨(some 34), .mv (.t 33), none, [33]⟩,
 ⟨(some 35), .mv (.t 3), (some (34, true)), [3, 34]⟩,
 ⟨(some 36), .mv (.t 5), (some (34, true)), [5, 34]⟩,
 ⟨(some 37), .ia 1 (.t 35) (.t 36), (some (34, true)), [35, 36, 34]⟩,
 ⟨(some 38), .ld1 (.t 37), (some (34, true)), [37, 34]⟩,
 ⟨(some 39), .mv (.t 0), (some (34, true)), [0, 34]⟩,
 ⟨(some 40), .mv (.t 4), (some (34, true)), [4, 34]⟩,
 ⟨(some 41), .ia 1 (.t 39) (.t 40), (some (34, true)), [39, 40, 34]⟩,
 ⟨(some 42), .ld1 (.t 41), (some (34, true)), [41, 34]⟩,
 ⟨(some 43), .bin (.int .eql) (.t 38) (.t 42), (some (34, true)), [38, 42, 34]⟩,
 ⟨(some 44), .pick (.t 34) (.t 43) (.c (.bool false)), none, [34, 43]⟩] [])
 (RC.cond (.t 44)
 (RC.exit 1)
 (RC.skip)))
 (RC.seq (RC.reg [⟨(some 45), .bsl 0 1 [(.int .i64 0)] [], none, []⟩,
 ⟨(some 46), .mv (.t 3), none, [3]⟩,
 ⟨(some 47), .mv (.t 5), none, [5]⟩,
 ⟨(some 48), .sl 1 (.t 46) (some (.t 47)) none none, none, [46, 47]⟩,
 ⟨(some 49), .app 1 (.t 45) (.t 48), none, [45, 48]⟩,
 ⟨(some 6), .mv (.t 49), none, [49]⟩])
 (RC.draw [⟨(some 50), .mv (.t 3), none, [3]⟩,
 ⟨(some 51), .mv (.t 5), none, [5]⟩,
 ⟨(some 52), .mv (.t 5), none, [5]⟩,
 ⟨(some 53), .sl 1 (.t 50) none (some (.t 51)) (some (.t 52)), none, [50, 51, 52]⟩,
 ⟨(some 54), .mv (.t 0), none, [0]⟩,
 ⟨(some 55), .mv (.t 4), none, [4]⟩,
 ⟨(some 56), .ia 1 (.t 54) (.t 55), none, [54, 55]⟩,
 ⟨(some 57), .ld1 (.t 56), none, [56]⟩,
 ⟨(some 58), .bsl 1 1 [(.int .i64 0)] [(0, 1, (.t 57))], none, [57]⟩,
 ⟨(some 60), .mv (.t 6), none, [6]⟩,
 ⟨(some 59), .app 1 (.t 53) (.t 58), none, [53, 58]⟩,
 ⟨(some 61), .app 1 (.t 59) (.t 60), none, [59, 60]⟩,
 ⟨(some 3), .mv (.t 61), none, [61]⟩] [(7, [10])]))))))
 (RC.reg [⟨(some 11), .mv (.t 4), none, [4]⟩,
 ⟨(some 12), .bin (.int .add) (.t 11) (.c (.int .i64 1)), none, [11]⟩,
 ⟨(some 4), .mv (.t 12), none, [12]⟩]))
def c53 : RC :=
 RC.seq (RC.reg [⟨(some 2), .mv (.c .nilslice), none, []⟩])
 (RC.seq (RC.reg [⟨(some 3), .mv (.c .nilslice), none, []⟩])
 (RC.seq (RC.seq (RC.reg [⟨(some 4), .mv (.c (.int .i64 0)), none, []⟩])
 (RC.block 0 (RC.loop c53l2)))
 (RC.seq (RC.reg [⟨(some 62), .mv (.t 3), none, [3]⟩,
 ⟨(some 2), .mv (.t 62), none, [62]⟩])
 (RC.ret))))
theorem c53_ok : resK Tryz.prog Tryz.f53.ntmps (Tryz.f53.body.getD .skip) = c53 := by kernel_rfl
theorem c53_res : resR Tryz.prog Tryz.f53.ntmps Tryz.f53.results.toList = [.t 2] := by kernel_rfl
theorem c53_ctr {args : List V} {h : Heap} {K : V → Heap → Prop} (hl : Nat.ble args.length 63 = true) (H : wpC Tryz.prog c53 (RF.ofL args) h fun e r h' => e.ends ∧ ∃ vs, evR r h' [.t 2] = some vs ∧ K (oneOf vs) h') : Ctr Tryz.prog 53 args h K :=
 ctr_of_wp follows namesOk Tryz.func53 (c := Tryz.f53.body.getD .skip) (by kernel_rfl) (by kernel_rfl) hl c53_ok c53_res H
def c54l1 : RC :=
 RC.seq (RC.seq (RC.reg [⟨(some 11), .mv (.t 7), none, [7]⟩,
 ⟨(some 12), .fa 4 (.t 3), none, [3]⟩,
 ⟨(some 13), .ld1 (.t 12), none, [12]⟩,
 ⟨(some 14), .len .slice (.t 13), none, [13]⟩,
 ⟨(some 15), .bin (.int .lss) (.t 11) (.t 14), none, [11, 14]⟩])
 (RC.cond (.t 15)
 (RC.skip)
 (RC.exit 0)))
 (RC.seq (RC.block 1 (RC.seq (RC.reg [⟨(some 18), .fa 4 (.t 3), none, [3]⟩,
 ⟨(some 19), .ld1 (.t 18), none, [18]⟩,
 ⟨(some 20), .mv (.t 7), none, [7]⟩,
 ⟨(some 21), .ia 3 (.t 19) (.t 20), none, [19, 20]⟩,
 ⟨(some 22), .fa 0 (.t 21), none, [21]⟩,
 ⟨(some 23), .ld1 (.t 22), none, [22]⟩,
 ⟨(some 24), .bin (.int .eql) (.t 23) (.c (.int .i64 1)), none, [23]⟩,
 ⟨(some 25), .mv (.t 24), none, [24]⟩,
 ⟨(some 26), .mv (.t 1), (some (25, true)), [1, 25]⟩,
 ⟨(some 27), .fa 4 (.t 3), (some (25, true)), [3, 25]⟩,
 ⟨(some 28), .ld1 (.t 27), (some (25, true)), [27, 25]⟩,
 ⟨(some 29), .mv (.t 7), (some (25, true)), [7, 25]⟩,
 ⟨(some 30), .ia 3 (.t 28) (.t 29), (some (25, true)), [28, 29, 25]⟩,
 ⟨(some 31), .fa 1 (.t 30), (some (25, true)), [30, 25]⟩,
 ⟨(some 32), .ld1 (.t 31), (some (25, true)), [31, 25]⟩,
 ⟨(some 33), .call 74 [(.t 26), (.t 32)], (some (25, true)), [26, 32, 25]⟩,
 ⟨(some 34), .un .not (.t 33), (some (25, true)), [33, 25]⟩,
 ⟨(some 35), .pick (.t 25) (.t 34) (.c (.bool false)), none, [25, 34]⟩])
 (RC.cond (.t 35)
 (RC.reg [⟨(some 36), .mv (.t 2), none, [2]⟩,
 ⟨(some 37), .fa 4 (.t 3), none, [3]⟩,
 ⟨(some 38), .ld1 (.t 37), none, [37]⟩,
 ⟨(some 39), .mv (.t 7), none, [7]⟩,
 ⟨(some 40), .ia 3 (.t 38) (.t 39), none, [38, 39]⟩,
 ⟨(some 41), .fa 1 (.t 40), none, [40]⟩,
 ⟨(some 42), .ld1 (.t 41), none, [41]⟩,
 ⟨(some 43), .bsl 1 1 [(.int .i64 0)] [(0, 1, (.t 42))], none, [42]⟩,
 ⟨(some 44), .app 1 (.t 36) (.t 43), none, [36, 43]⟩,
 ⟨(some 2), .mv (.t 44), none, [44]⟩])
 (RC.skip))))
 (RC.reg [⟨(some 16), .mv (.t 7), none, [7]⟩,
 ⟨(some 17), .bin (.int .add) (.t 16) (.c (.int .i64 1)), none, [16]⟩,
 ⟨(some 7), .mv (.t 17), none, [17]⟩]))
def c54l2 : RC :=
 RC.seq (RC.seq (RC.reg [⟨(some 80), .mv (.t 9), none, [9]⟩,
 ⟨(some 81), .fa 6 (.t 3), none, [3]⟩,
 ⟨(some 82), .ld1 (.t 81), none, [81]⟩,
 ⟨(some 83), .len .slice (.t 82), none, [82]⟩,
 ⟨(some 84), .bin (.int .sub) (.t 83) (.c (.int .i64 1)), none, [83]⟩,
 ⟨(some 85), .bin (.int .lss) (.t 80) (.t 84), none, [80, 84]⟩])
 (RC.cond (.t 85)
 (RC.skip)
 (RC.exit 3)))
 (RC.seq (RC.block 4 (RC.reg [⟨(some 88), .mv (.t 8), none, [8]⟩,
 ⟨(some 89), .fa 6 (.t 3), none, [3]⟩,
 ⟨(some 90), .ld1 (.t 89), none, [89]⟩,
 ⟨(some 91), .mv (.t 9), none, [9]⟩,
 ⟨(some 92), .ia 7 (.t 90) (.t 91), none, [90, 91]⟩,
 ⟨(some 93), .fa 2 (.t 92), none, [92]⟩,
 ⟨(some 94), .ld1 (.t 93), none, [93]⟩,
 ⟨(some 95), .bsl 1 1 [(.int .i64 0)] [(0, 1, (.t 94))], none, [94]⟩,
 ⟨(some 96), .app 1 (.t 88) (.t 95), none, [88, 95]⟩,
 ⟨(some 8), .mv (.t 96), none, [96]⟩]))
 (RC.reg [⟨(some 86), .mv (.t 9), none, [9]⟩,
 ⟨(some 87), .bin (.int .add) (.t 86) (.c (.int .i64 1)), none, [86]⟩,
 ⟨(some 9), .mv (.t 87), none, [87]⟩]))
def c54l3 : RC :=
 RC.seq (RC.seq (RC.reg [⟨(some 97), .mv (.t 10), none, [10]⟩,
 ⟨(some 98), .fa 6 (.t 3), none, [3]⟩,
 ⟨(some 99), .ld1 (.t 98), none, [98]⟩,
 ⟨(some 100), .len .slice (.t 99), none, [99]⟩,
 ⟨(some 101), .bin (.int .lss) (.t 97) (.t 100), none, [97, 100]⟩])
 (RC.cond (.t 101)
 (RC.skip)
 (RC.exit 5)))
 (RC.seq (RC.block 6 (RC.reg [⟨(some 104), .fa 6 (.t 3), none, [3]⟩,
 ⟨(some 105), .ld1 (.t 104), none, [104]⟩,
 ⟨(some 106), .mv (.t 10), none, [10]⟩,
 ⟨(some 107), .ia 7 (.t 105) (.t 106), none, [105, 106]⟩,
 ⟨(some 108), .ldn 7 (.t 107), none, [107]⟩,
 ⟨(some 109), .mv (.t 8), none, [8]⟩,
 ⟨(some 110), .mv (.t 2), none, [2]⟩,
 ⟨(some 111), .call 54 [(.t 108), (.t 109), (.t 110)], none, [108, 109, 110]⟩,
 ⟨(some 2), .mv (.t 111), none, [111]⟩]))
 (RC.reg [⟨(some 102), .mv (.t 10), none, [10]⟩,
 ⟨(some 103), .bin (.int .add) (.t 102) (.c (.int .i64 1)), none, [102]⟩,
 ⟨(some 10), .mv (.t 103), none, [103]⟩]))
def c54 : RC :=
 RC.seq (RC.reg [⟨(some 3), .box (.t 0), none, [0]⟩,
 ⟨(some 6), .mv (.c .nilslice), none, []⟩])
 (RC.seq (RC.seq (RC.reg [⟨(some 7), .mv (.c (.int .i64 0)), none, []⟩])
 (RC.block 0 (RC.loop c54l1)))
 (RC.seq (RC.reg [⟨(some 45), .bsl 0 1 [(.int .i64 0)] [], none, []⟩,
 ⟨(some 46), .mv (.t 1), none, [1]⟩,
 ⟨(some 47), .app 1 (.t 45) (.t 46), none, [45, 46]⟩,
 ⟨(some 8), .mv (.t 47), none, [47]⟩])
 (RC.seq (RC.seq (RC.reg [⟨(some 48), .fa 0 (.t 3), none, [3]⟩,
 ⟨(some 49), .ld1 (.t 48), none, [48]⟩])
 (RC.block 2 (RC.seq (RC.seq (RC.reg [⟨(some 51), .bin (.int .eql) (.t 49) (.c (.int .i64 2)), none, [49]⟩,
 ⟨(some 50), .mv (.t 51), none, [51]⟩])
 (RC.cond (.t 50)
 (RC.skip)
 (RC.reg [⟨(some 52), .bin (.int .eql) (.t 49) (.c (.int .i64 11)), none, [49]⟩,
 ⟨(some 50), .mv (.t 52), none, [52]⟩])))
 (RC.cond (.t 50)
 (RC.seq (RC.reg [⟨(some 53), .fa 6 (.t 3), none, [3]⟩,
 ⟨(some 54), .ld1 (.t 53), none, [53]⟩,
 ⟨(some 55), .ia 7 (.t 54) (.c (.int .i64 0)), none, [54]⟩,
 ⟨(some 56), .ldn 7 (.t 55), none, [55]⟩,
 ⟨(some 57), .mv (.t 1), none, [1]⟩,
 ⟨(some 58), .mv (.t 2), none, [2]⟩,
 ⟨(some 59), .call 54 [(.t 56), (.t 57), (.t 58)], none, [56, 57, 58]⟩,
 ⟨(some 2), .mv (.t 59), none, [59]⟩])
 (RC.seq (RC.draw [⟨(some 60), .fa 6 (.t 3), none, [3]⟩,
 ⟨(some 61), .ld1 (.t 60), none, [60]⟩,
 ⟨(some 62), .ia 7 (.t 61) (.c (.int .i64 1)), none, [61]⟩,
 ⟨(some 63), .ldn 7 (.t 62), none, [62]⟩,
 ⟨(some 64), .mv (.t 8), none, [8]⟩,
 ⟨(some 65), .fa 1 (.t 3), none, [3]⟩,
 ⟨(some 66), .ld1 (.t 65), none, [65]⟩,
 ⟨(some 67), .bsl 1 1 [(.int .i64 0)] [(0, 1, (.t 66))], none, [66]⟩,
 ⟨(some 69), .mv (.t 2), none, [2]⟩,
 ⟨(some 68), .app 1 (.t 64) (.t 67), none, [64, 67]⟩,
 ⟨(some 70), .call 54 [(.t 63), (.t 68), (.t 69)], none, [63, 68, 69]⟩,
 ⟨(some 6), .mv (.t 70), none, [70]⟩] [(1, [9, 10]), (3, [9, 10]), (6, [9])])
 (RC.ret)))
 (RC.seq (RC.reg [⟨(some 72), .bin (.int .eql) (.t 49) (.c (.int .i64 7)), none, [49]⟩,
 ⟨(some 71), .mv (.t 72), none, [72]⟩])
 (RC.cond (.t 71)
 (RC.reg [⟨(some 73), .mv (.t 8), none, [8]⟩,
 ⟨(some 74), .fa 1 (.t 3), none, [3]⟩,
 ⟨(some 75), .ld1 (.t 74), none, [74]⟩,
 ⟨(some 76), .bsl 1 1 [(.int .i64 0)] [(0, 1, (.t 75))], none, [75]⟩,
 ⟨(some 77), .app 1 (.t 73) (.t 76), none, [73, 76]⟩,
 ⟨(some 8), .mv (.t 77), none, [77]⟩])
 (RC.seq (RC.reg [⟨(some 79), .bin (.int .eql) (.t 49) (.c (.int .i64 8)), none, [49]⟩,
 ⟨(some 78), .mv (.t 79), none, [79]⟩])
 (RC.cond (.t 78)
 (RC.seq (RC.reg [⟨(some 9), .mv (.c (.int .i64 0)), none, []⟩])
 (RC.block 3 (RC.loop c54l2)))
 (RC.skip)))))))))
 (RC.seq (RC.seq (RC.reg [⟨(some 10), .mv (.c (.int .i64 0)), none, []⟩])
 (RC.block 5 (RC.loop c54l3)))
 (RC.seq (RC.reg [⟨(some 112), .mv (.t 2), none, [2]⟩,
 ⟨(some 6), .mv (.t 112), none, [112]⟩])
 (RC.ret))))))
theorem c54_ok : resK Tryz.prog Tryz.f54.ntmps (Tryz.f54.body.getD .skip) = c54 := by kernel_rfl
theorem c54_res : resR Tryz.prog Tryz.f54.ntmps Tryz.f54.results.toList = [.t 6] := by kernel_rfl
theorem c54_ctr {args : List V} {h : Heap} {K : V → Heap → Prop} (hl : Nat.ble args.length 113 = true) (H : wpC Tryz.prog c54 (RF.ofL args) h fun e r h' => e.ends ∧ ∃ vs, evR r h' [.t 6] = some vs ∧ K (oneOf vs) h') : Ctr Tryz.prog 54 args h K :=
 ctr_of_wp follows namesOk Tryz.func54 (c := Tryz.f54.body.getD .skip) (by kernel_rfl) (by kernel_rfl) hl c54_ok c54_res H
def c57l1 : RC :=
 RC.seq (RC.seq (RC.reg [⟨(some 36), .mv (.t 9), none, [9]⟩,
 ⟨(some 37), .fa 4 (.t 3), none, [3]⟩,
 ⟨(some 38), .ld1 (.t 37), none, [37]⟩,
 ⟨(some 39), .len .slice (.t 38), none, [38]⟩,
 ⟨(some 40), .bin (.int .lss) (.t 36) (.t 39), none, [36, 39]⟩])
 (RC.cond (.t 40)
 (RC.skip)
 (RC.exit 0)))
 (RC.seq (RC.block 1 (RC.seq (RC.reg [⟨(some 43), .fa 4 (.t 3), none, [3]⟩,
 ⟨(some 44), .ld1 (.t 43), none, [43]⟩,
 ⟨(some 45), .mv (.t 9), none, [9]⟩,
 ⟨(some 46), .ia 3 (.t 44) (.t 45), none, [44, 45]⟩,
 ⟨(some 47), .ldn 3 (.t 46), none, [46]⟩,
 ⟨(some 10), .new [(.int .i64 0), (.int .i64 0), (.str [])], none, []⟩,
 ⟨none, .st 3 (.t 10) (.t 47), none, [10, 47]⟩])
 (RC.seq (RC.seq (RC.reg [⟨(some 48), .fa 0 (.t 10), none, [10]⟩,
 ⟨(some 49), .ld1 (.t 48), none, [48]⟩,
 ⟨(some 50), .bin (.int .eql) (.t 49) (.c (.int .i64 1)), none, [49]⟩])
 (RC.cond (.t 50)
 (RC.reg [⟨(some 51), .mv (.t 2), none, [2]⟩,
 ⟨(some 52), .mv (.t 1), none, [1]⟩,
 ⟨(some 53), .fa 1 (.t 10), none, [10]⟩,
 ⟨(some 54), .ld1 (.t 53), none, [53]⟩,
 ⟨(some 55), .call 76 [(.t 52), (.t 54)], none, [52, 54]⟩,
 ⟨(some 56), .bin (.int .add) (.t 51) (.t 55), none, [51, 55]⟩,
 ⟨(some 57), .fa 1 (.t 10), none, [10]⟩,
 ⟨none, .st 1 (.t 57) (.t 56), none, [57, 56]⟩])
 (RC.skip)))
 (RC.reg [⟨(some 58), .mv (.t 8), none, [8]⟩,
 ⟨(some 59), .ldn 3 (.t 10), none, [10]⟩,
 ⟨(some 60), .bsl 1 3 [(.int .i64 0), (.int .i64 0), (.str [])] [(0, 3, (.t 59))], none, [59]⟩,
 ⟨(some 61), .app 3 (.t 58) (.t 60), none, [58, 60]⟩,
 ⟨(some 8), .mv (.t 61), none, [61]⟩]))))
 (RC.reg [⟨(some 41), .mv (.t 9), none, [9]⟩,
 ⟨(some 42), .bin (.int .add) (.t 41) (.c (.int .i64 1)), none, [41]⟩,
 ⟨(some 9), .mv (.t 42), none, [42]⟩]))
def c57l2 : RC :=
 RC.seq (RC.seq (RC.reg [⟨(some 62), .mv (.t 12), none, [12]⟩,
 ⟨(some 63), .fa 6 (.t 3), none, [3]⟩,
 ⟨(some 64), .ld1 (.t 63), none, [63]⟩,
 ⟨(some 65), .len .slice (.t 64), none, [64]⟩,
 ⟨(some 66), .bin (.int .lss) (.t 62) (.t 65), none, [62, 65]⟩])
 (RC.cond (.t 66)
 (RC.skip)
 (RC.exit 2)))
 (RC.seq (RC.block 3 (RC.seq (RC.reg [⟨(some 69), .fa 6 (.t 3), none, [3]⟩,
 ⟨(some 70), .ld1 (.t 69), none, [69]⟩,
 ⟨(some 71), .mv (.t 12), none, [12]⟩,
 ⟨(some 72), .ia 7 (.t 70) (.t 71), none, [70, 71]⟩,
 ⟨(some 73), .ldn 7 (.t 72), none, [72]⟩,
 ⟨(some 13), .new [(.int .i64 0), (.int .i64 0), (.int .i64 0), (.str []), .nilslice, .nilslice, .nilslice], none, []⟩,
 ⟨none, .st 7 (.t 13) (.t 73), none, [13, 73]⟩])
 (RC.seq (RC.seq (RC.reg [⟨(some 74), .fa 0 (.t 3), none, [3]⟩,
 ⟨(some 75), .ld1 (.t 74), none, [74]⟩,
 ⟨(some 76), .bin (.int .eql) (.t 75) (.c (.int .i64 8)), none, [75]⟩,
 ⟨(some 77), .mv (.t 76), none, [76]⟩,
 ⟨(some 78), .mv (.t 12), (some (77, true)), [12, 77]⟩,
 ⟨(some 79), .fa 6 (.t 3), (some (77, true)), [3, 77]⟩,
 ⟨(some 80), .ld1 (.t 79), (some (77, true)), [79, 77]⟩,
 ⟨(some 81), .len .slice (.t 80), (some (77, true)), [80, 77]⟩,
 ⟨(some 82), .bin (.int .sub) (.t 81) (.c (.int .i64 1)), (some (77, true)), [81, 77]⟩,
 ⟨(some 83), .bin (.int .lss) (.t 78) (.t 82), (some (77, true)), [78, 82, 77]⟩,
 ⟨(some 84), .pick (.t 77) (.t 83) (.c (.bool false)), none, [77, 83]⟩])
 (RC.cond (.t 84)
 (RC.reg [⟨(some 85), .mv (.t 2), none, [2]⟩,
 ⟨(some 86), .mv (.t 1), none, [1]⟩,
 ⟨(some 87), .fa 2 (.t 13), none, [13]⟩,
 ⟨(some 88), .ld1 (.t 87), none, [87]⟩,
 ⟨(some 89), .call 76 [(.t 86), (.t 88)], none, [86, 88]⟩,
 ⟨(some 90), .bin (.int .add) (.t 85) (.t 89), none, [85, 89]⟩,
 ⟨(some 91), .fa 2 (.t 13), none, [13]⟩,
 ⟨none, .st 1 (.t 91) (.t 90), none, [91, 90]⟩])
 (RC.skip)))
 (RC.seq (RC.reg [⟨(some 92), .ldn 7 (.t 13), none, [13]⟩,
 ⟨(some 93), .mv (.t 1), none, [1]⟩,
 ⟨(some 94), .mv (.t 2), none, [2]⟩,
 ⟨(some 95), .call 57 [(.t 92), (.t 93), (.t 94)], none, [92, 93, 94]⟩,
 ⟨(some 14), .new [(.int .i64 0), (.int .i64 0), (.int .i64 0), (.str []), .nilslice, .nilslice, .nilslice], none, []⟩,
 ⟨none, .st 7 (.t 14) (.t 95), none, [14, 95]⟩])
 (RC.reg [⟨(some 96), .mv (.t 11), none, [11]⟩,
 ⟨(some 97), .ldn 7 (.t 14), none, [14]⟩,
 ⟨(some 98), .bsl 1 7 [(.int .i64 0), (.int .i64 0), (.int .i64 0), (.str []), .nilslice, .nilslice, .nilslice] [(0, 7, (.t 97))], none, [97]⟩,
 ⟨(some 99), .app 7 (.t 96) (.t 98), none, [96, 98]⟩,
 ⟨(some 11), .mv (.t 99), none, [99]⟩])))))
 (RC.reg [⟨(some 67), .mv (.t 12), none, [12]⟩,
 ⟨(some 68), .bin (.int .add) (.t 67) (.c (.int .i64 1)), none, [67]⟩,
 ⟨(some 12), .mv (.t 68), none, [68]⟩]))
def c57 : RC :=
 RC.seq (RC.reg [⟨(some 3), .box (.t 0), none, [0]⟩,
 ⟨(some 6), .new [(.int .i64 0), (.int .i64 0), (.int .i64 0), (.str []), .nilslice, .nilslice, .nilslice], none, []⟩])
 (RC.seq (RC.reg [⟨(some 15), .fa 0 (.t 3), none, [3]⟩,
 ⟨(some 16), .ld1 (.t 15), none, [15]⟩,
 ⟨(some 17), .bin (.int .eql) (.t 16) (.c (.int .i64 2)), none, [16]⟩,
 ⟨(some 18), .mv (.t 17), none, [17]⟩,
 ⟨(some 19), .fa 0 (.t 3), (some (18, false)), [3, 18]⟩,
 ⟨(some 20), .ld1 (.t 19), (some (18, false)), [19, 18]⟩,
 ⟨(some 21), .bin (.int .eql) (.t 20) (.c (.int .i64 11)), (some (18, false)), [20, 18]⟩,
 ⟨(some 22), .pick (.t 18) (.c (.bool true)) (.t 21), none, [18, 21]⟩,
 ⟨(some 23), .mv (.t 22), none, [22]⟩,
 ⟨(some 24), .fa 0 (.t 3), (some (23, false)), [3, 23]⟩,
 ⟨(some 25), .ld1 (.t 24), (some (23, false)), [24, 23]⟩,
 ⟨(some 26), .bin (.int .eql) (.t 25) (.c (.int .i64 7)), (some (23, false)), [25, 23]⟩,
 ⟨(some 27), .pick (.t 23) (.c (.bool true)) (.t 26), none, [23, 26]⟩,
 ⟨(some 7), .mv (.t 27), none, [27]⟩])
 (RC.seq (RC.seq (RC.reg [⟨(some 28), .mv (.t 7), none, [7]⟩])
 (RC.cond (.t 28)
 (RC.reg [⟨(some 29), .mv (.t 2), none, [2]⟩,
 ⟨(some 30), .mv (.t 1), none, [1]⟩,
 ⟨(some 31), .fa 1 (.t 3), none, [3]⟩,
 ⟨(some 32), .ld1 (.t 31), none, [31]⟩,
 ⟨(some 33), .call 76 [(.t 30), (.t 32)], none, [30, 32]⟩,
 ⟨(some 34), .bin (.int .add) (.t 29) (.t 33), none, [29, 33]⟩,
 ⟨(some 35), .fa 1 (.t 3), none, [3]⟩,
 ⟨none, .st 1 (.t 35) (.t 34), none, [35, 34]⟩])
 (RC.skip)))
 (RC.seq (RC.reg [⟨(some 8), .mv (.c .nilslice), none, []⟩])
 (RC.seq (RC.seq (RC.reg [⟨(some 9), .mv (.c (.int .i64 0)), none, []⟩])
 (RC.block 0 (RC.loop c57l1)))
 (RC.seq (RC.reg [⟨(some 11), .mv (.c .nilslice), none, []⟩])
 (RC.seq (RC.seq (RC.reg [⟨(some 12), .mv (.c (.int .i64 0)), none, []⟩])
 (RC.block 2 (RC.loop c57l2)))
 (RC.seq (RC.reg [⟨(some 100), .mv (.t 8), none, [8]⟩,
 ⟨(some 101), .fa 4 (.t 3), none, [3]⟩,
 ⟨none, .st 1 (.t 101) (.t 100), none, [101, 100]⟩])
 (RC.seq (RC.reg [⟨(some 102), .mv (.t 11), none, [11]⟩,
 ⟨(some 103), .fa 6 (.t 3), none, [3]⟩,
 ⟨none, .st 1 (.t 103) (.t 102), none, [103, 102]⟩])
 (RC.seq (RC.reg [⟨(some 104), .bsl 0 1 [(.int .i64 0)] [], none, []⟩,
 ⟨(some 105), .fa 5 (.t 3), none, [3]⟩,
 ⟨(some 106), .ld1 (.t 105), none, [105]⟩,
 ⟨(some 107), .app 1 (.t 104) (.t 106), none, [104, 106]⟩,
 ⟨(some 108), .fa 5 (.t 3), none, [3]⟩,
 ⟨none, .st 1 (.t 108) (.t 107), none, [108, 107]⟩])
 (RC.seq (RC.reg [⟨(some 109), .ldn 7 (.t 3), none, [3]⟩,
 ⟨none, .st 7 (.t 6) (.t 109), none, [6, 109]⟩])
 (RC.ret)))))))))))
theorem c57_ok : resK Tryz.prog Tryz.f57.ntmps (Tryz.f57.body.getD .skip) = c57 := by kernel_rfl
theorem c57_res : resR Tryz.prog Tryz.f57.ntmps Tryz.f57.results.toList = [.cn 6 7] := by kernel_rfl
theorem c57_ctr {args : List V} {h : Heap} {K : V → Heap → Prop} (hl : Nat.ble args.length 110 = true) (H : wpC Tryz.prog c57 (RF.ofL args) h fun e r h' => e.ends ∧ ∃ vs, evR r h' [.cn 6 7] = some vs ∧ K (oneOf vs) h') : Ctr Tryz.prog 57 args h K :=
 ctr_of_wp follows namesOk Tryz.func57 (c := Tryz.f57.body.getD .skip) (by kernel_rfl) (by kernel_rfl) hl c57_ok c57_res H
def c69 : RC :=
 RC.seq (RC.reg [⟨(some 5), .box (.t 0), none, [0]⟩,
 ⟨(some 10), .mv (.c (.bool false)), none, []⟩])
 (RC.seq (RC.reg [⟨(some 11), .mv (.t 1), none, [1]⟩,
 ⟨(some 12), .mv (.t 11), none, [11]⟩,
 ⟨(some 13), .fa 1 (.t 5), (some (12, false)), [5, 12]⟩,
 ⟨(some 14), .ld1 (.t 13), (some (12, false)), [13, 12]⟩,
 ⟨(some 15), .bin (.int .eql) (.t 14) (.c (.int .i64 0)), (some (12, false)), [14, 12]⟩,
 ⟨(some 16), .pick (.t 12) (.c (.bool true)) (.t 15), none, [12, 15]⟩,
 ⟨(some 17), .mv (.t 16), none, [16]⟩,
 ⟨(some 18), .mv (.t 2), (some (17, true)), [2, 17]⟩,
 ⟨(some 19), .mv (.t 18), (some (17, true)), [18, 17]⟩,
 ⟨(some 20), .fa 2 (.t 5), (some (19, false)), [5, 19]⟩,
 ⟨(some 21), .ld1 (.t 20), (some (19, false)), [20, 19]⟩,
 ⟨(some 22), .bin (.int .eql) (.t 21) (.c (.int .i64 0)), (some (19, false)), [21, 19]⟩,
 ⟨(some 23), .pick (.t 19) (.c (.bool true)) (.t 22), (some (17, true)), [19, 22, 17]⟩,
 ⟨(some 24), .pick (.t 17) (.t 23) (.c (.bool false)), none, [17, 23]⟩,
 ⟨(some 25), .mv (.t 24), none, [24]⟩,
 ⟨(some 26), .mv (.t 3), (some (25, true)), [3, 25]⟩,
 ⟨(some 27), .mv (.t 26), (some (25, true)), [26, 25]⟩,
 ⟨(some 28), .fa 3 (.t 5), (some (27, false)), [5, 27]⟩,
 ⟨(some 29), .ld1 (.t 28), (some (27, false)), [28, 27]⟩,
 ⟨(some 30), .bin (.str .eql) (.t 29) (.c (.str [])), (some (27, false)), [29, 27]⟩,
 ⟨(some 31), .pick (.t 27) (.c (.bool true)) (.t 30), (some (25, true)), [27, 30, 25]⟩,
 ⟨(some 32), .pick (.t 25) (.t 31) (.c (.bool false)), none, [25, 31]⟩,
 ⟨(some 33), .mv (.t 32), none, [32]⟩,
 ⟨(some 34), .mv (.t 4), (some (33, true)), [4, 33]⟩,
 ⟨(some 35), .mv (.t 34), (some (33, true)), [34, 33]⟩,
 ⟨(some 36), .fa 5 (.t 5), (some (35, false)), [5, 35]⟩,
 ⟨(some 37), .ld1 (.t 36), (some (35, false)), [36, 35]⟩,
 ⟨(some 38), .len .slice (.t 37), (some (35, false)), [37, 35]⟩,
 ⟨(some 39), .bin (.int .eql) (.t 38) (.c (.int .i64 0)), (some (35, false)), [38, 35]⟩,
 ⟨(some 40), .pick (.t 35) (.c (.bool true)) (.t 39), (some (33, true)), [35, 39, 33]⟩,
 ⟨(some 41), .pick (.t 33) (.t 40) (.c (.bool false)), none, [33, 40]⟩,
 ⟨(some 10), .mv (.t 41), none, [41]⟩])
 (RC.ret))
theorem c69_ok : resK Tryz.prog Tryz.f69.ntmps (Tryz.f69.body.getD .skip) = c69 := by kernel_rfl
theorem c69_res : resR Tryz.prog Tryz.f69.ntmps Tryz.f69.results.toList = [.t 10] := by kernel_rfl
theorem c69_ctr {args : List V} {h : Heap} {K : V → Heap → Prop} (hl : Nat.ble args.length 42 = true) (H : wpC Tryz.prog c69 (RF.ofL args) h fun e r h' => e.ends ∧ ∃ vs, evR r h' [.t 10] = some vs ∧ K (oneOf vs) h') : Ctr Tryz.prog 69 args h K :=
 ctr_of_wp follows namesOk Tryz.func69 (c := Tryz.f69.body.getD .skip) (by kernel_rfl) (by kernel_rfl) hl c69_ok c69_res H
def c70 : RC :=
 RC.seq (RC.reg [⟨(some 2), .box (.t 0), none, [0]⟩,
 ⟨(some 4), .mv (.c (.bool false)), none, []⟩])
 (RC.seq (RC.reg [⟨(some 5), .fa 0 (.t 2), none, [2]⟩,
 ⟨(some 6), .ld1 (.t 5), none, [5]⟩,
 ⟨(some 7), .bin (.int .eql) (.t 6) (.c (.int .i64 7)), none, [6]⟩,
 ⟨(some 8), .mv (.t 7), none, [7]⟩,
 ⟨(some 9), .ldn 7 (.t 2), (some (8, true)), [2, 8]⟩,
 ⟨(some 10), .mv (.t 1), (some (8, true)), [1, 8]⟩,
 ⟨(some 11), .call 69 [(.t 9), (.c (.bool true)), (.t 10), (.c (.bool false)), (.c (.bool false))], (some (8, true)), [9, 10, 8]⟩,
 ⟨(some 12), .pick (.t 8) (.t 11) (.c (.bool false)), none, [8, 11]⟩,
 ⟨(some 13), .mv (.t 12), none, [12]⟩,
 ⟨(some 14), .fa 1 (.t 2), (some (13, true)), [2, 13]⟩,
 ⟨(some 15), .ld1 (.t 14), (some (13, true)), [14, 13]⟩,
 ⟨(some 16), .call 130 [(.t 15)], (some (13, true)), [15, 13]⟩,
 ⟨(some 17), .pick (.t 13) (.t 16) (.c (.bool false)), none, [13, 16]⟩,
 ⟨(some 18), .mv (.t 17), none, [17]⟩,
 ⟨(some 19), .mv (.t 1), (some (18, true)), [1, 18]⟩,
 ⟨(some 20), .un .not (.t 19), (some (18, true)), [19, 18]⟩,
 ⟨(some 21), .mv (.t 20), (some (18, true)), [20, 18]⟩,
 ⟨(some 22), .fa 2 (.t 2), (some (21, false)), [2, 21]⟩,
 ⟨(some 23), .ld1 (.t 22), (some (21, false)), [22, 21]⟩,
 ⟨(some 24), .call 130 [(.t 23)], (some (21, false)), [23, 21]⟩,
 ⟨(some 25), .pick (.t 21) (.c (.bool true)) (.t 24), (some (18, true)), [21, 24, 18]⟩,
 ⟨(some 26), .pick (.t 18) (.t 25) (.c (.bool false)), none, [18, 25]⟩,
 ⟨(some 27), .mv (.t 26), none, [26]⟩,
 ⟨(some 28), .fa 4 (.t 2), (some (27, true)), [2, 27]⟩,
 ⟨(some 29), .ld1 (.t 28), (some (27, true)), [28, 27]⟩,
 ⟨(some 30), .len .slice (.t 29), (some (27, true)), [29, 27]⟩,
 ⟨(some 31), .bin (.int .eql) (.t 30) (.c (.int .i64 0)), (some (27, true)), [30, 27]⟩,
 ⟨(some 32), .pick (.t 27) (.t 31) (.c (.bool false)), none, [27, 31]⟩,
 ⟨(some 33), .mv (.t 32), none, [32]⟩,
 ⟨(some 34), .fa 6 (.t 2), (some (33, true)), [2, 33]⟩,
 ⟨(some 35), .ld1 (.t 34), (some (33, true)), [34, 33]⟩,
 ⟨(some 36), .len .slice (.t 35), (some (33, true)), [35, 33]⟩,
 ⟨(some 37), .bin (.int .eql) (.t 36) (.c (.int .i64 1)), (some (33, true)), [36, 33]⟩,
 ⟨(some 38), .pick (.t 33) (.t 37) (.c (.bool false)), none, [33, 37]⟩,
 ⟨(some 4), .mv (.t 38), none, [38]⟩])
 (RC.ret))
theorem c70_ok : resK Tryz.prog Tryz.f70.ntmps (Tryz.f70.body.getD .skip) = c70 := by kernel_rfl
theorem c70_res : resR Tryz.prog Tryz.f70.ntmps Tryz.f70.results.toList = [.t 4] := by kernel_rfl
theorem c70_ctr {args : List V} {h : Heap} {K : V → Heap → Prop} (hl : Nat.ble args.length 39 = true) (H : wpC Tryz.prog c70 (RF.ofL args) h fun e r h' => e.ends ∧ ∃ vs, evR r h' [.t 4] = some vs ∧ K (oneOf vs) h') : Ctr Tryz.prog 70 args h K :=
 ctr_of_wp follows namesOk Tryz.func70 (c := Tryz.f70.body.getD .skip) (by kernel_rfl) (by kernel_rfl) hl c70_ok c70_res H
def c71 : RC :=
 RC.seq (RC.reg [⟨(some 1), .box (.t 0), none, [0]⟩,
 ⟨(some 2), .mv (.c (.bool false)), none, []⟩])
 (RC.seq (RC.reg [⟨(some 5), .fa 6 (.t 1), none, [1]⟩,
 ⟨(some 6), .ld1 (.t 5), none, [5]⟩,
 ⟨(some 7), .len .slice (.t 6), none, [6]⟩,
 ⟨(some 3), .mv (.t 7), none, [7]⟩])
 (RC.seq (RC.seq (RC.reg [⟨(some 8), .fa 0 (.t 1), none, [1]⟩,
 ⟨(some 9), .ld1 (.t 8), none, [8]⟩])
 (RC.block 0 (RC.seq (RC.seq (RC.reg [⟨(some 11), .bin (.int .eql) (.t 9) (.c (.int .i64 1)), none, [9]⟩,
 ⟨(some 10), .mv (.t 11), none, [11]⟩])
 (RC.cond (.t 10)
 (RC.skip)
 (RC.reg [⟨(some 12), .bin (.int .eql) (.t 9) (.c (.int .i64 12)), none, [9]⟩,
 ⟨(some 10), .mv (.t 12), none, [12]⟩])))
 (RC.cond (.t 10)
 (RC.seq (RC.reg [⟨(some 13), .ldn 7 (.t 1), none, [1]⟩,
 ⟨(some 14), .call 69 [(.t 13), (.c (.bool false)), (.c (.bool false)), (.c (.bool false)), (.c (.bool false))], none, [13]⟩,
 ⟨(some 15), .mv (.t 14), none, [14]⟩,
 ⟨(some 16), .fa 4 (.t 1), (some (15, true)), [1, 15]⟩,
 ⟨(some 17), .ld1 (.t 16), (some (15, true)), [16, 15]⟩,
 ⟨(some 18), .call 131 [(.t 17), (.c (.int .i64 1))], (some (15, true)), [17, 15]⟩,
 ⟨(some 19), .pick (.t 15) (.t 18) (.c (.bool false)), none, [15, 18]⟩,
 ⟨(some 20), .mv (.t 19), none, [19]⟩,
 ⟨(some 21), .mv (.t 3), (some (20, true)), [3, 20]⟩,
 ⟨(some 22), .bin (.int .eql) (.t 21) (.c (.int .i64 0)), (some (20, true)), [21, 20]⟩,
 ⟨(some 23), .pick (.t 20) (.t 22) (.c (.bool false)), none, [20, 22]⟩,
 ⟨(some 2), .mv (.t 23), none, [23]⟩])
 (RC.ret))
 (RC.seq (RC.seq (RC.reg [⟨(some 25), .bin (.int .eql) (.t 9) (.c (.int .i64 2)), none, [9]⟩,
 ⟨(some 24), .mv (.t 25), none, [25]⟩])
 (RC.cond (.t 24)
 (RC.skip)
 (RC.reg [⟨(some 26), .bin (.int .eql) (.t 9) (.c (.int .i64 11)), none, [9]⟩,
 ⟨(some 24), .mv (.t 26), none, [26]⟩])))
 (RC.cond (.t 24)
 (RC.seq (RC.reg [⟨(some 27), .ldn 7 (.t 1), none, [1]⟩,
 ⟨(some 28), .call 69 [(.t 27), (.c (.bool true)), (.c (.bool false)), (.c (.bool false)), (.c (.bool false))], none, [27]⟩,
 ⟨(some 29), .mv (.t 28), none, [28]⟩,
 ⟨(some 30), .fa 1 (.t 1), (some (29, true)), [1, 29]⟩,
 ⟨(some 31), .ld1 (.t 30), (some (29, true)), [30, 29]⟩,
 ⟨(some 32), .call 130 [(.t 31)], (some (29, true)), [31, 29]⟩,
 ⟨(some 33), .pick (.t 29) (.t 32) (.c (.bool false)), none, [29, 32]⟩,
 ⟨(some 34), .mv (.t 33), none, [33]⟩,
 ⟨(some 35), .fa 4 (.t 1), (some (34, true)), [1, 34]⟩,
 ⟨(some 36), .ld1 (.t 35), (some (34, true)), [35, 34]⟩,
 ⟨(some 37), .len .slice (.t 36), (some (34, true)), [36, 34]⟩,
 ⟨(some 38), .bin (.int .eql) (.t 37) (.c (.int .i64 0)), (some (34, true)), [37, 34]⟩,
 ⟨(some 39), .pick (.t 34) (.t 38) (.c (.bool false)), none, [34, 38]⟩,
 ⟨(some 40), .mv (.t 39), none, [39]⟩,
 ⟨(some 41), .mv (.t 3), (some (40, true)), [3, 40]⟩,
 ⟨(some 42), .bin (.int .eql) (.t 41) (.c (.int .i64 2)), (some (40, true)), [41, 40]⟩,
 ⟨(some 43), .pick (.t 40) (.t 42) (.c (.bool false)), none, [40, 42]⟩,
 ⟨(some 2), .mv (.t 43), none, [43]⟩])
 (RC.ret))
 (RC.seq (RC.reg [⟨(some 45), .bin (.int .eql) (.t 9) (.c (.int .i64 3)), none, [9]⟩,
 ⟨(some 44), .mv (.t 45), none, [45]⟩])
 (RC.cond (.t 44)
 (RC.seq (RC.draw [⟨(some 46), .ldn 7 (.t 1), none, [1]⟩,
 ⟨(some 47), .call 69 [(.t 46), (.c (.bool false)), (.c (.bool false)), (.c (.bool true)), (.c (.bool false))], none, [46]⟩,
 ⟨(some 48), .mv (.t 47), none, [47]⟩,
 ⟨(some 49), .fa 3 (.t 1), (some (48, true)), [1, 48]⟩,
 ⟨(some 50), .ld1 (.t 49), (some (48, true)), [49, 48]⟩,
 ⟨(some 51), .call 132 [(.t 50)], (some (48, true)), [50, 48]⟩,
 ⟨(some 52), .bin (.int .gtr) (.t 51) (.c (.int .i64 0)), (some (48, true)), [51, 48]⟩,
 ⟨(some 53), .pick (.t 48) (.t 52) (.c (.bool false)), none, [48, 52]⟩,
 ⟨(some 54), .mv (.t 53), none, [53]⟩,
 ⟨(some 55), .fa 4 (.t 1), (some (54, true)), [1, 54]⟩,
 ⟨(some 56), .ld1 (.t 55), (some (54, true)), [55, 54]⟩,
 ⟨(some 57), .fa 3 (.t 1), (some (54, true)), [1, 54]⟩,
 ⟨(some 58), .ld1 (.t 57), (some (54, true)), [57, 54]⟩,
 ⟨(some 59), .call 132 [(.t 58)], (some (54, true)), [58, 54]⟩,
 ⟨(some 60), .call 131 [(.t 56), (.t 59)], (some (54, true)), [56, 59, 54]⟩,
 ⟨(some 61), .pick (.t 54) (.t 60) (.c (.bool false)), none, [54, 60]⟩,
 ⟨(some 62), .mv (.t 61), none, [61]⟩,
 ⟨(some 63), .mv (.t 3), (some (62, true)), [3, 62]⟩,
 ⟨(some 64), .bin (.int .eql) (.t 63) (.c (.int .i64 0)), (some (62, true)), [63, 62]⟩,
 ⟨(some 65), .pick (.t 62) (.t 64) (.c (.bool false)), none, [62, 64]⟩,
 ⟨(some 2), .mv (.t 65), none, [65]⟩] [(0, [1]), (4, [5]), (10, [13, 14]), (12, [13])])
 (RC.ret))
 (RC.seq (RC.reg [⟨(some 67), .bin (.int .eql) (.t 9) (.c (.int .i64 4)), none, [9]⟩,
 ⟨(some 66), .mv (.t 67), none, [67]⟩])
 (RC.cond (.t 66)
 (RC.seq (RC.reg [⟨(some 68), .ldn 7 (.t 1), none, [1]⟩,
 ⟨(some 69), .call 69 [(.t 68), (.c (.bool false)), (.c (.bool true)), (.c (.bool false)), (.c (.bool false))], none, [68]⟩,
 ⟨(some 70), .mv (.t 69), none, [69]⟩,
 ⟨(some 71), .fa 2 (.t 1), (some (70, true)), [1, 70]⟩,
 ⟨(some 72), .ld1 (.t 71), (some (70, true)), [71, 70]⟩,
 ⟨(some 73), .call 130 [(.t 72)], (some (70, true)), [72, 70]⟩,
 ⟨(some 74), .pick (.t 70) (.t 73) (.c (.bool false)), none, [70, 73]⟩,
 ⟨(some 75), .mv (.t 74), none, [74]⟩,
 ⟨(some 76), .fa 4 (.t 1), (some (75, true)), [1, 75]⟩,
 ⟨(some 77), .ld1 (.t 76), (some (75, true)), [76, 75]⟩,
 ⟨(some 78), .len .slice (.t 77), (some (75, true)), [77, 75]⟩,
 ⟨(some 79), .bin (.int .leq) (.t 78) (.c (.int .i64 1024)), (some (75, true)), [78, 75]⟩,
 ⟨(some 80), .pick (.t 75) (.t 79) (.c (.bool false)), none, [75, 79]⟩,
 ⟨(some 81), .mv (.t 80), none, [80]⟩,
 ⟨(some 82), .fa 4 (.t 1), (some (81, true)), [1, 81]⟩,
 ⟨(some 83), .ld1 (.t 82), (some (81, true)), [82, 81]⟩,
 ⟨(some 84), .fa 4 (.t 1), (some (81, true)), [1, 81]⟩,
 ⟨(some 85), .ld1 (.t 84), (some (81, true)), [84, 81]⟩,
 ⟨(some 86), .len .slice (.t 85), (some (81, true)), [85, 81]⟩,
 ⟨(some 87), .call 131 [(.t 83), (.t 86)], (some (81, true)), [83, 86, 81]⟩,
 ⟨(some 88), .pick (.t 81) (.t 87) (.c (.bool false)), none, [81, 87]⟩,
 ⟨(some 89), .mv (.t 88), none, [88]⟩,
 ⟨(some 90), .mv (.t 3), (some (89, true)), [3, 89]⟩,
 ⟨(some 91), .bin (.int .eql) (.t 90) (.c (.int .i64 0)), (some (89, true)), [90, 89]⟩,
 ⟨(some 92), .pick (.t 89) (.t 91) (.c (.bool false)), none, [89, 91]⟩,
 ⟨(some 2), .mv (.t 92), none, [92]⟩])
 (RC.ret))
 (RC.seq (RC.reg [⟨(some 94), .bin (.int .eql) (.t 9) (.c (.int .i64 5)), none, [9]⟩,
 ⟨(some 93), .mv (.t 94), none, [94]⟩])
 (RC.cond (.t 93)
 (RC.seq (RC.reg [⟨(some 95), .ldn 7 (.t 1), none, [1]⟩,
 ⟨(some 96), .call 69 [(.t 95), (.c (.bool false)), (.c (.bool true)), (.c (.bool false)), (.c (.bool false))], none, [95]⟩,
 ⟨(some 97), .mv (.t 96), none, [96]⟩,
 ⟨(some 98), .fa 2 (.t 1), (some (97, true)), [1, 97]⟩,
 ⟨(some 99), .ld1 (.t 98), (some (97, true)), [98, 97]⟩,
 ⟨(some 100), .bin (.int .geq) (.t 99) (.c (.int .i64 0)), (some (97, true)), [99, 97]⟩,
 ⟨(some 101), .pick (.t 97) (.t 100) (.c (.bool false)), none, [97, 100]⟩,
 ⟨(some 102), .mv (.t 101), none, [101]⟩,
 ⟨(some 103), .fa 2 (.t 1), (some (102, true)), [1, 102]⟩,
 ⟨(some 104), .ld1 (.t 103), (some (102, true)), [103, 102]⟩,
 ⟨(some 105), .bin (.int .lss) (.t 104) (.c (.int .i64 1024)), (some (102, true)), [104, 102]⟩,
 ⟨(some 106), .pick (.t 102) (.t 105) (.c (.bool false)), none, [102, 105]⟩,
 ⟨(some 107), .mv (.t 106), none, [106]⟩,
 ⟨(some 108), .fa 4 (.t 1), (some (107, true)), [1, 107]⟩,
 ⟨(some 109), .ld1 (.t 108), (some (107, true)), [108, 107]⟩,
 ⟨(some 110), .call 131 [(.t 109), (.c (.int .i64 1))], (some (107, true)), [109, 107]⟩,
 ⟨(some 111), .pick (.t 107) (.t 110) (.c (.bool false)), none, [107, 110]⟩,
 ⟨(some 112), .mv (.t 111), none, [111]⟩,
 ⟨(some 113), .mv (.t 3), (some (112, true)), [3, 112]⟩,
 ⟨(some 114), .bin (.int .eql) (.t 113) (.c (.int .i64 0)), (some (112, true)), [113, 112]⟩,
 ⟨(some 115), .pick (.t 112) (.t 114) (.c (.bool false)), none, [112, 114]⟩,
 ⟨(some 2), .mv (.t 115), none, [115]⟩])
 (RC.ret))
 (RC.seq (RC.reg [⟨(some 117), .bin (.int .eql) (.t 9) (.c (.int .i64 6)), none, [9]⟩,
 ⟨(some 116), .mv (.t 117), none, [117]⟩])
 (RC.cond (.t 116)
 (RC.seq (RC.reg [⟨(some 118), .ldn 7 (.t 1), none, [1]⟩,
 ⟨(some 119), .call 69 [(.t 118), (.c (.bool false)), (.c (.bool false)), (.c (.bool false)), (.c (.bool false))], none, [118]⟩,
 ⟨(some 120), .mv (.t 119), none, [119]⟩,
 ⟨(some 121), .fa 4 (.t 1), (some (120, true)), [1, 120]⟩,
 ⟨(some 122), .ld1 (.t 121), (some (120, true)), [121, 120]⟩,
 ⟨(some 123), .call 131 [(.t 122), (.c (.int .i64 2))], (some (120, true)), [122, 120]⟩,
 ⟨(some 124), .pick (.t 120) (.t 123) (.c (.bool false)), none, [120, 123]⟩,
 ⟨(some 125), .mv (.t 124), none, [124]⟩,
 ⟨(some 126), .mv (.t 3), (some (125, true)), [3, 125]⟩,
 ⟨(some 127), .bin (.int .eql) (.t 126) (.c (.int .i64 0)), (some (125, true)), [126, 125]⟩,
 ⟨(some 128), .pick (.t 125) (.t 127) (.c (.bool false)), none, [125, 127]⟩,
 ⟨(some 2), .mv (.t 128), none, [128]⟩])
 (RC.ret))
 (RC.seq (RC.seq (RC.reg [⟨(some 130), .bin (.int .eql) (.t 9) (.c (.int .i64 9)), none, [9]⟩,
 ⟨(some 129), .mv (.t 130), none, [130]⟩])
 (RC.cond (.t 129)
 (RC.skip)
 (RC.reg [⟨(some 131), .bin (.int .eql) (.t 9) (.c (.int .i64 10)), none, [9]⟩,
 ⟨(some 129), .mv (.t 131), none, [131]⟩])))
 (RC.cond (.t 129)
 (RC.seq (RC.reg [⟨(some 132), .mv (.t 3), none, [3]⟩,
 ⟨(some 133), .bin (.int .geq) (.t 132) (.c (.int .i64 1)), none, [132]⟩,
 ⟨(some 134), .mv (.t 133), none, [133]⟩,
 ⟨(some 135), .mv (.t 3), (some (134, true)), [3, 134]⟩,
 ⟨(some 136), .fa 5 (.t 1), (some (134, true)), [1, 134]⟩,
 ⟨(some 137), .ld1 (.t 136), (some (134, true)), [136, 134]⟩,
 ⟨(some 138), .len .slice (.t 137), (some (134, true)), [137, 134]⟩,
 ⟨(some 139), .bin (.int .eql) (.t 135) (.t 138), (some (134, true)), [135, 138, 134]⟩,
 ⟨(some 140), .mv (.t 139), (some (134, true)), [139, 134]⟩,
 ⟨(some 141), .mv (.t 3), (some (140, false)), [3, 140]⟩,
 ⟨(some 142), .fa 5 (.t 1), (some (140, false)), [1, 140]⟩,
 ⟨(some 143), .ld1 (.t 142), (some (140, false)), [142, 140]⟩,
 ⟨(some 144), .len .slice (.t 143), (some (140, false)), [143, 140]⟩,
 ⟨(some 145), .bin (.int .add) (.t 144) (.c (.int .i64 1)), (some (140, false)), [144, 140]⟩,
 ⟨(some 146), .bin (.int .eql) (.t 141) (.t 145), (some (140, false)), [141, 145, 140]⟩,
 ⟨(some 147), .pick (.t 140) (.c (.bool true)) (.t 146), (some (134, true)), [140, 146, 134]⟩,
 ⟨(some 148), .pick (.t 134) (.t 147) (.c (.bool false)), none, [134, 147]⟩,
 ⟨(some 4), .mv (.t 148), none, [148]⟩])
 (RC.seq (RC.reg [⟨(some 149), .ldn 7 (.t 1), none, [1]⟩,
 ⟨(some 150), .call 69 [(.t 149), (.c (.bool false)), (.c (.bool false)), (.c (.bool false)), (.c (.bool true))], none, [149]⟩,
 ⟨(some 151), .mv (.t 150), none, [150]⟩,
 ⟨(some 152), .fa 4 (.t 1), (some (151, true)), [1, 151]⟩,
 ⟨(some 153), .ld1 (.t 152), (some (151, true)), [152, 151]⟩,
 ⟨(some 154), .call 131 [(.t 153), (.c (.int .i64 1))], (some (151, true)), [153, 151]⟩,
 ⟨(some 155), .pick (.t 151) (.t 154) (.c (.bool false)), none, [151, 154]⟩,
 ⟨(some 156), .mv (.t 155), none, [155]⟩,
 ⟨(some 157), .fa 5 (.t 1), (some (156, true)), [1, 156]⟩,
 ⟨(some 158), .ld1 (.t 157), (some (156, true)), [157, 156]⟩,
 ⟨(some 159), .fa 0 (.t 1), (some (156, true)), [1, 156]⟩,
 ⟨(some 160), .ld1 (.t 159), (some (156, true)), [159, 156]⟩,
 ⟨(some 161), .bin (.int .eql) (.t 160) (.c (.int .i64 10)), (some (156, true)), [160, 156]⟩,
 ⟨(some 162), .call 133 [(.t 158), (.t 161)], (some (156, true)), [158, 161, 156]⟩,
 ⟨(some 163), .pick (.t 156) (.t 162) (.c (.bool false)), none, [156, 162]⟩,
 ⟨(some 164), .mv (.t 163), none, [163]⟩,
 ⟨(some 165), .mv (.t 4), (some (164, true)), [4, 164]⟩,
 ⟨(some 166), .pick (.t 164) (.t 165) (.c (.bool false)), none, [164, 165]⟩,
 ⟨(some 2), .mv (.t 166), none, [166]⟩])
 (RC.ret)))
 (RC.skip)))))))))))))))))
 (RC.seq (RC.reg [⟨(some 2), .mv (.c (.bool false)), none, []⟩])
 (RC.ret))))
theorem c71_ok : resK Tryz.prog Tryz.f71.ntmps (Tryz.f71.body.getD .skip) = c71 := by kernel_rfl
theorem c71_res : resR Tryz.prog Tryz.f71.ntmps Tryz.f71.results.toList = [.t 2] := by kernel_rfl
theorem c71_ctr {args : List V} {h : Heap} {K : V → Heap → Prop} (hl : Nat.ble args.length 167 = true) (H : wpC Tryz.prog c71 (RF.ofL args) h fun e r h' => e.ends ∧ ∃ vs, evR r h' [.t 2] = some vs ∧ K (oneOf vs) h') : Ctr Tryz.prog 71 args h K :=
 ctr_of_wp follows namesOk Tryz.func71 (c := Tryz.f71.body.getD .skip) (by kernel_rfl) (by kernel_rfl) hl c71_ok c71_res H
def c74l1 : RC :=
 RC.seq (RC.seq (RC.reg [⟨(some 6), .mv (.t 5), none, [5]⟩,
 ⟨(some 7), .mv (.t 0), none, [0]⟩,
 ⟨(some 8), .len .slice (.t 7), none, [7]⟩,
 ⟨(some 9), .bin (.int .lss) (.t 6) (.t 8), none, [6, 8]⟩])
 (RC.cond (.t 9)
 (RC.skip)
 (RC.exit 0)))
 (RC.seq (RC.block 1 (RC.seq (RC.reg [⟨(some 12), .mv (.t 0), none, [0]⟩,
 ⟨(some 13), .mv (.t 5), none, [5]⟩,
 ⟨(some 14), .ia 1 (.t 12) (.t 13), none, [12, 13]⟩,
 ⟨(some 15), .ld1 (.t 14), none, [14]⟩,
 ⟨(some 16), .mv (.t 1), none, [1]⟩,
 ⟨(some 17), .bin (.int .eql) (.t 15) (.t 16), none, [15, 16]⟩])
 (RC.cond (.t 17)
 (RC.seq (RC.reg [⟨(some 4), .mv (.c (.bool true)), none, []⟩])
 (RC.ret))
 (RC.skip))))
 (RC.reg [⟨(some 10), .mv (.t 5), none, [5]⟩,
 ⟨(some 11), .bin (.int .add) (.t 10) (.c (.int .i64 1)), none, [10]⟩,
 ⟨(some 5), .mv (.t 11), none, [11]⟩]))
def c74 : RC :=
 RC.seq (RC.reg [⟨(some 4), .mv (.c (.bool false)), none, []⟩])
 (RC.seq (RC.seq (RC.reg [⟨(some 5), .mv (.c (.int .i64 0)), none, []⟩])
 (RC.block 0 (RC.loop c74l1)))
 (RC.seq (RC.reg [⟨(some 4), .mv (.c (.bool false)), none, []⟩])
 (RC.ret)))
theorem c74_ok : resK Tryz.prog Tryz.f74.ntmps (Tryz.f74.body.getD .skip) = c74 := by kernel_rfl
theorem c74_res : resR Tryz.prog Tryz.f74.ntmps Tryz.f74.results.toList = [.t 4] := by kernel_rfl
theorem c74_ctr {args : List V} {h : Heap} {K : V → Heap → Prop} (hl : Nat.ble args.length 18 = true) (H : wpC Tryz.prog c74 (RF.ofL args) h fun e r h' => e.ends ∧ ∃ vs, evR r h' [.t 4] = some vs ∧ K (oneOf vs) h') : Ctr Tryz.prog 74 args h K :=
 ctr_of_wp follows namesOk Tryz.func74 (c := Tryz.f74.body.getD .skip) (by kernel_rfl) (by kernel_rfl) hl c74_ok c74_res H
def c76l1 : RC :=
 RC.seq (RC.seq (RC.reg [⟨(some 6), .mv (.t 5), none, [5]⟩,
 ⟨(some 7), .mv (.t 0), none, [0]⟩,
 ⟨(some 8), .len .slice (.t 7), none, [7]⟩,
 ⟨(some 9), .bin (.int .lss) (.t 6) (.t 8), none, [6, 8]⟩])
 (RC.cond (.t 9)
 (RC.skip)
 (RC.exit 0)))
 (RC.seq (RC.block 1 (RC.seq (RC.reg [⟨(some 12), .mv (.t 0), none, [0]⟩,
 ⟨(some 13), .mv (.t 5), none, [5]⟩,
 ⟨(some 14), .ia 1 (.t 12) (.t 13), none, [12, 13]⟩,
 ⟨(some 15), .ld1 (.t 14), none, [14]⟩,
 ⟨(some 16), .mv (.t 1), none, [1]⟩,
 ⟨(some 17), .bin (.int .eql) (.t 15) (.t 16), none, [15, 16]⟩])
 (RC.cond (.t 17)
 (RC.seq (RC.reg [⟨(some 18), .mv (.t 5), none, [5]⟩,
 ⟨(some 4), .mv (.t 18), none, [18]⟩])
 (RC.ret))
 (RC.skip))))
 (RC.reg [⟨(some 10), .mv (.t 5), none, [5]⟩,
 ⟨(some 11), .bin (.int .add) (.t 10) (.c (.int .i64 1)), none, [10]⟩,
 ⟨(some 5), .mv (.t 11), none, [11]⟩]))
def c76 : RC :=
 RC.seq (RC.reg [⟨(some 4), .mv (.c (.int .i64 0)), none, []⟩])
 (RC.seq (RC.seq (RC.reg [⟨(some 5), .mv (.c (.int .i64 0)), none, []⟩])
 (RC.block 0 (RC.loop c76l1)))
 (RC.seq (RC.reg [⟨(some 4), .mv (.c (.int .i64 (-1))), none, []⟩])
 (RC.ret)))
theorem c76_ok : resK Tryz.prog Tryz.f76.ntmps (Tryz.f76.body.getD .skip) = c76 := by kernel_rfl
theorem c76_res : resR Tryz.prog Tryz.f76.ntmps Tryz.f76.results.toList = [.t 4] := by kernel_rfl
theorem c76_ctr {args : List V} {h : Heap} {K : V → Heap → Prop} (hl : Nat.ble args.length 19 = true) (H : wpC Tryz.prog c76 (RF.ofL args) h fun e r h' => e.ends ∧ ∃ vs, evR r h' [.t 4] = some vs ∧ K (oneOf vs) h') : Ctr Tryz.prog 76 args h K :=
 ctr_of_wp follows namesOk Tryz.func76 (c := Tryz.f76.body.getD .skip) (by kernel_rfl) (by kernel_rfl) hl c76_ok c76_res H
def c130 : RC :=
 RC.seq (RC.reg [⟨(some 2), .mv (.c (.bool false)), none, []⟩])
 (RC.seq (RC.reg [⟨(some 3), .mv (.t 0), none, [0]⟩,
 ⟨(some 4), .bin (.int .geq) (.t 3) (.c (.int .i64 0)), none, [3]⟩,
 ⟨(some 5), .mv (.t 4), none, [4]⟩,
 ⟨(some 6), .mv (.t 0), (some (5, true)), [0, 5]⟩,
 ⟨(some 7), .bin (.int .leq) (.t 6) (.c (.int .i64 1048575)), (some (5, true)), [6, 5]⟩,
 ⟨(some 8), .pick (.t 5) (.t 7) (.c (.bool false)), none, [5, 7]⟩,
 ⟨(some 2), .mv (.t 8), none, [8]⟩])
 (RC.ret))
theorem c130_ok : resK Tryz.prog Tryz.f130.ntmps (Tryz.f130.body.getD .skip) = c130 := by kernel_rfl
theorem c130_res : resR Tryz.prog Tryz.f130.ntmps Tryz.f130.results.toList = [.t 2] := by kernel_rfl
theorem c130_ctr {args : List V} {h : Heap} {K : V → Heap → Prop} (hl : Nat.ble args.length 9 = true) (H : wpC Tryz.prog c130 (RF.ofL args) h fun e r h' => e.ends ∧ ∃ vs, evR r h' [.t 2] = some vs ∧ K (oneOf vs) h') : Ctr Tryz.prog 130 args h K :=
 ctr_of_wp follows namesOk Tryz.func130 (c := Tryz.f130.body.getD .skip) (by kernel_rfl) (by kernel_rfl) hl c130_ok c130_res H
def c131l1 : RC :=
 RC.seq (RC.seq (RC.reg [⟨(some 6), .mv (.t 5), none, [5]⟩,
 ⟨(some 7), .mv (.t 0), none, [0]⟩,
 ⟨(some 8), .len .slice (.t 7), none, [7]⟩,
 ⟨(some 9), .bin (.int .lss) (.t 6) (.t 8), none, [6, 8]⟩])
 (RC.cond (.t 9)
 (RC.skip)
 (RC.exit 0)))
 (RC.seq (RC.block 1 (RC.seq (RC.reg [⟨(some 12), .mv (.t 0), none, [0]⟩,
 ⟨(some 13), .mv (.t 5), none, [5]⟩,
 ⟨(some 14), .ia 3 (.t 12) (.t 13), none, [12, 13]⟩,
 ⟨(some 15), .ldn 3 (.t 14), none, [14]⟩,
 ⟨(some 16), .call 162 [(.t 15)], none, [15]⟩,
 ⟨(some 17), .un .not (.t 16), none, [16]⟩])
 (RC.cond (.t 17)
 (RC.seq (RC.reg [⟨(some 4), .mv (.c (.bool false)), none, []⟩])
 (RC.ret))
 (RC.skip))))
 (RC.reg [⟨(some 10), .mv (.t 5), none, [5]⟩,
 ⟨(some 11), .bin (.int .add) (.t 10) (.c (.int .i64 1)), none, [10]⟩,
 ⟨(some 5), .mv (.t 11), none, [11]⟩]))
def c131 : RC :=
 RC.seq (RC.reg [⟨(some 4), .mv (.c (.bool false)), none, []⟩])
 (RC.seq (RC.seq (RC.reg [⟨(some 5), .mv (.c (.int .i64 0)), none, []⟩])
 (RC.block 0 (RC.loop c131l1)))
 (RC.seq (RC.reg [⟨(some 18), .mv (.t 0), none, [0]⟩,
 ⟨(some 19), .len .slice (.t 18), none, [18]⟩,
 ⟨(some 20), .mv (.t 1), none, [1]⟩,
 ⟨(some 21), .bin (.int .eql) (.t 19) (.t 20), none, [19, 20]⟩,
 ⟨(some 4), .mv (.t 21), none, [21]⟩])
 (RC.ret)))
theorem c131_ok : resK Tryz.prog Tryz.f131.ntmps (Tryz.f131.body.getD .skip) = c131 := by kernel_rfl
theorem c131_res : resR Tryz.prog Tryz.f131.ntmps Tryz.f131.results.toList = [.t 4] := by kernel_rfl
theorem c131_ctr {args : List V} {h : Heap} {K : V → Heap → Prop} (hl : Nat.ble args.length 22 = true) (H : wpC Tryz.prog c131 (RF.ofL args) h fun e r h' => e.ends ∧ ∃ vs, evR r h' [.t 4] = some vs ∧ K (oneOf vs) h') : Ctr Tryz.prog 131 args h K :=
 ctr_of_wp follows namesOk Tryz.func131 (c := Tryz.f131.body.getD .skip) (by kernel_rfl) (by kernel_rfl) hl c131_ok c131_res H
def c132 : RC :=
 RC.seq (RC.reg [⟨(some 2), .mv (.c (.int .i64 0)), none, []⟩])
 (RC.seq (RC.seq (RC.reg [⟨(some 3), .mv (.t 0), none, [0]⟩])
 (RC.block 0 (RC.seq (RC.seq (RC.reg [⟨(some 5), .bin (.str .eql) (.t 3) (.c (.str [97, 100, 100])), none, [3]⟩,
 ⟨(some 4), .mv (.t 5), none, [5]⟩])
 (RC.cond (.t 4)
 (RC.skip)
 (RC.seq (RC.reg [⟨(some 6), .bin (.str .eql) (.t 3) (.c (.str [115, 117, 98])), none, [3]⟩,
 ⟨(some 4), .mv (.t 6), none, [6]⟩])
 (RC.cond (.t 4)
 (RC.skip)
 (RC.seq (RC.reg [⟨(some 7), .bin (.str .eql) (.t 3) (.c (.str [109, 117, 108])), none, [3]⟩,
 ⟨(some 4), .mv (.t 7), none, [7]⟩])
 (RC.cond (.t 4)
 (RC.skip)
 (RC.seq (RC.reg [⟨(some 8), .bin (.str .eql) (.t 3) (.c (.str [100, 105, 118])), none, [3]⟩,
 ⟨(some 4), .mv (.t 8), none, [8]⟩])
 (RC.cond (.t 4)
 (RC.skip)
 (RC.seq (RC.reg [⟨(some 9), .bin (.str .eql) (.t 3) (.c (.str [109, 111, 100])), none, [3]⟩,
 ⟨(some 4), .mv (.t 9), none, [9]⟩])
 (RC.cond (.t 4)
 (RC.skip)
 (RC.seq (RC.reg [⟨(some 10), .bin (.str .eql) (.t 3) (.c (.str [101, 113])), none, [3]⟩,
 ⟨(some 4), .mv (.t 10), none, [10]⟩])
 (RC.cond (.t 4)
 (RC.skip)
 (RC.seq (RC.reg [⟨(some 11), .bin (.str .eql) (.t 3) (.c (.str [108, 116])), none, [3]⟩,
 ⟨(some 4), .mv (.t 11), none, [11]⟩])
 (RC.cond (.t 4)
 (RC.skip)
 (RC.seq (RC.reg [⟨(some 12), .bin (.str .eql) (.t 3) (.c (.str [108, 101])), none, [3]⟩,
 ⟨(some 4), .mv (.t 12), none, [12]⟩])
 (RC.cond (.t 4)
 (RC.skip)
 (RC.seq (RC.reg [⟨(some 13), .bin (.str .eql) (.t 3) (.c (.str [98, 121, 116, 101])), none, [3]⟩,
 ⟨(some 4), .mv (.t 13), none, [13]⟩])
 (RC.cond (.t 4)
 (RC.skip)
 (RC.seq (RC.reg [⟨(some 14), .bin (.str .eql) (.t 3) (.c (.str [106, 111, 105, 110])), none, [3]⟩,
 ⟨(some 4), .mv (.t 14), none, [14]⟩])
 (RC.cond (.t 4)
 (RC.skip)
 (RC.reg [⟨(some 15), .bin (.str .eql) (.t 3) (.c (.str [115, 101, 116])), none, [3]⟩,
 ⟨(some 4), .mv (.t 15), none, [15]⟩])))))))))))))))))))))
 (RC.cond (.t 4)
 (RC.seq (RC.reg [⟨(some 2), .mv (.c (.int .i64 2)), none, []⟩])
 (RC.ret))
 (RC.seq (RC.seq (RC.reg [⟨(some 17), .bin (.str .eql) (.t 3) (.c (.str [110, 101, 103])), none, [3]⟩,
 ⟨(some 16), .mv (.t 17), none, [17]⟩])
 (RC.cond (.t 16)
 (RC.skip)
 (RC.seq (RC.reg [⟨(some 18), .bin (.str .eql) (.t 3) (.c (.str [103, 101, 116, 99])), none, [3]⟩,
 ⟨(some 16), .mv (.t 18), none, [18]⟩])
 (RC.cond (.t 16)
 (RC.skip)
 (RC.seq (RC.reg [⟨(some 19), .bin (.str .eql) (.t 3) (.c (.str [112, 117, 116, 99])), none, [3]⟩,
 ⟨(some 16), .mv (.t 19), none, [19]⟩])
 (RC.cond (.t 16)
 (RC.skip)
 (RC.seq (RC.reg [⟨(some 20), .bin (.str .eql) (.t 3) (.c (.str [112, 117, 116, 115])), none, [3]⟩,
 ⟨(some 16), .mv (.t 20), none, [20]⟩])
 (RC.cond (.t 16)
 (RC.skip)
 (RC.seq (RC.reg [⟨(some 21), .bin (.str .eql) (.t 3) (.c (.str [115, 105, 122, 101])), none, [3]⟩,
 ⟨(some 16), .mv (.t 21), none, [21]⟩])
 (RC.cond (.t 16)
 (RC.skip)
 (RC.reg [⟨(some 22), .bin (.str .eql) (.t 3) (.c (.str [99, 104, 114])), none, [3]⟩,
 ⟨(some 16), .mv (.t 22), none, [22]⟩])))))))))))
 (RC.cond (.t 16)
 (RC.seq (RC.reg [⟨(some 2), .mv (.c (.int .i64 1)), none, []⟩])
 (RC.ret))
 (RC.seq (RC.reg [⟨(some 24), .bin (.str .eql) (.t 3) (.c (.str [99, 117, 116])), none, [3]⟩,
 ⟨(some 23), .mv (.t 24), none, [24]⟩])
 (RC.cond (.t 23)
 (RC.seq (RC.reg [⟨(some 2), .mv (.c (.int .i64 3)), none, []⟩])
 (RC.ret))
 (RC.skip)))))))))
 (RC.seq (RC.reg [⟨(some 2), .mv (.c (.int .i64 0)), none, []⟩])
 (RC.ret)))
theorem c132_ok : resK Tryz.prog Tryz.f132.ntmps (Tryz.f132.body.getD .skip) = c132 := by kernel_rfl
theorem c132_res : resR Tryz.prog Tryz.f132.ntmps Tryz.f132.results.toList = [.t 2] := by kernel_rfl
theorem c132_ctr {args : List V} {h : Heap} {K : V → Heap → Prop} (hl : Nat.ble args.length 25 = true) (H : wpC Tryz.prog c132 (RF.ofL args) h fun e r h' => e.ends ∧ ∃ vs, evR r h' [.t 2] = some vs ∧ K (oneOf vs) h') : Ctr Tryz.prog 132 args h K :=
 ctr_of_wp follows namesOk Tryz.func132 (c := Tryz.f132.body.getD .skip) (by kernel_rfl) (by kernel_rfl) hl c132_ok c132_res H
def c133l1 : RC :=
 RC.seq (RC.seq (RC.reg [⟨(some 34), .mv (.t 6), none, [6]⟩,
 ⟨(some 35), .mv (.t 5), none, [5]⟩,
 ⟨(some 36), .bin (.int .lss) (.t 34) (.t 35), none, [34, 35]⟩])
 (RC.cond (.t 36)
 (RC.skip)
 (RC.exit 2)))
 (RC.seq (RC.block 3 (RC.seq (RC.draw [⟨(some 39), .mv (.t 0), none, [0]⟩,
 ⟨(some 40), .mv (.t 6), none, [6]⟩,
 ⟨(some 41), .ia 1 (.t 39) (.t 40), none, [39, 40]⟩,
 ⟨(some 42), .ld1 (.t 41), none, [41]⟩,
 ⟨(some 43), .mv (.t 0), none, [0]⟩,
 ⟨(some 44), .mv (.t 5), none, [5]⟩,
 ⟨(some 45), .ia 1 (.t 43) (.t 44), none, [43, 44]⟩,
 ⟨(some 46), .ld1 (.t 45), none, [45]⟩,
 ⟨(some 47), .bin (.int .eql) (.t 42) (.t 46), none, [42, 46]⟩] [])
 (RC.cond (.t 47)
 (RC.seq (RC.reg [⟨(some 4), .mv (.c (.bool false)), none, []⟩])
 (RC.ret))
 (RC.skip))))
 (RC.reg [⟨(some 37), .mv (.t 6), none, [6]⟩,
 ⟨(some 38), .bin (.int .add) (.t 37) (.c (.int .i64 1)), none, [37]⟩,
 ⟨(some 6), .mv (.t 38), none, [38]⟩]))
def c133l2 : RC :=
 RC.seq (RC.seq (RC.reg [⟨(some 7), .mv (.t 5), none, [5]⟩,
 ⟨(some 8), .mv (.t 0), none, [0]⟩,
 ⟨(some 9), .len .slice (.t 8), none, [8]⟩,
 ⟨(some 10), .bin (.int .lss) (.t 7) (.t 9), none, [7, 9]⟩])
 (RC.cond (.t 10)
 (RC.skip)
 (RC.exit 0)))
 (RC.seq (RC.block 1 (RC.seq (RC.seq (RC.reg [⟨(some 13), .mv (.t 1), none, [1]⟩,
 ⟨(some 14), .mv (.t 13), none, [13]⟩,
 ⟨(some 15), .mv (.t 0), (some (14, true)), [0, 14]⟩,
 ⟨(some 16), .mv (.t 5), (some (14, true)), [5, 14]⟩,
 ⟨(some 17), .ia 1 (.t 15) (.t 16), (some (14, true)), [15, 16, 14]⟩,
 ⟨(some 18), .ld1 (.t 17), (some (14, true)), [17, 14]⟩,
 ⟨(some 19), .call 163 [(.t 18)], (some (14, true)), [18, 14]⟩,
 ⟨(some 20), .un .not (.t 19), (some (14, true)), [19, 14]⟩,
 ⟨(some 21), .pick (.t 14) (.t 20) (.c (.bool false)), none, [14, 20]⟩,
 ⟨(some 22), .mv (.t 21), none, [21]⟩,
 ⟨(some 23), .mv (.t 1), (some (22, false)), [1, 22]⟩,
 ⟨(some 24), .un .not (.t 23), (some (22, false)), [23, 22]⟩,
 ⟨(some 25), .mv (.t 24), (some (22, false)), [24, 22]⟩,
 ⟨(some 26), .mv (.t 0), (some (25, true)), [0, 25]⟩,
 ⟨(some 27), .mv (.t 5), (some (25, true)), [5, 25]⟩,
 ⟨(some 28), .ia 1 (.t 26) (.t 27), (some (25, true)), [26, 27, 25]⟩,
 ⟨(some 29), .ld1 (.t 28), (some (25, true)), [28, 25]⟩,
 ⟨(some 30), .call 130 [(.t 29)], (some (25, true)), [29, 25]⟩,
 ⟨(some 31), .un .not (.t 30), (some (25, true)), [30, 25]⟩,
 ⟨(some 32), .pick (.t 25) (.t 31) (.c (.bool false)), (some (22, false)), [25, 31, 22]⟩,
 ⟨(some 33), .pick (.t 22) (.c (.bool true)) (.t 32), none, [22, 32]⟩])
 (RC.cond (.t 33)
 (RC.seq (RC.reg [⟨(some 4), .mv (.c (.bool false)), none, []⟩])
 (RC.ret))
 (RC.skip)))
 (RC.seq (RC.reg [⟨(some 6), .mv (.c (.int .i64 0)), none, []⟩])
 (RC.block 2 (RC.loop c133l1)))))
 (RC.reg [⟨(some 11), .mv (.t 5), none, [5]⟩,
 ⟨(some 12), .bin (.int .add) (.t 11) (.c (.int .i64 1)), none, [11]⟩,
 ⟨(some 5), .mv (.t 12), none, [12]⟩]))
def c133 : RC :=
 RC.seq (RC.reg [⟨(some 4), .mv (.c (.bool false)), none, []⟩])
 (RC.seq (RC.seq (RC.reg [⟨(some 5), .mv (.c (.int .i64 0)), none, []⟩])
 (RC.block 0 (RC.loop c133l2)))
 (RC.seq (RC.reg [⟨(some 4), .mv (.c (.bool true)), none, []⟩])
 (RC.ret)))
theorem c133_ok : resK Tryz.prog Tryz.f133.ntmps (Tryz.f133.body.getD .skip) = c133 := by kernel_rfl
theorem c133_res : resR Tryz.prog Tryz.f133.ntmps Tryz.f133.results.toList = [.t 4] := by kernel_rfl
theorem c133_ctr {args : List V} {h : Heap} {K : V → Heap → Prop} (hl : Nat.ble args.length 48 = true) (H : wpC Tryz.prog c133 (RF.ofL args) h fun e r h' => e.ends ∧ ∃ vs, evR r h' [.t 4] = some vs ∧ K (oneOf vs) h') : Ctr Tryz.prog 133 args h K :=
 ctr_of_wp follows namesOk Tryz.func133 (c := Tryz.f133.body.getD .skip) (by kernel_rfl) (by kernel_rfl) hl c133_ok c133_res H
def c162 : RC :=
 RC.seq (RC.reg [⟨(some 1), .box (.t 0), none, [0]⟩,
 ⟨(some 2), .mv (.c (.bool false)), none, []⟩])
 (RC.seq (RC.seq (RC.reg [⟨(some 3), .fa 0 (.t 1), none, [1]⟩,
 ⟨(some 4), .ld1 (.t 3), none, [3]⟩])
 (RC.block 0 (RC.seq (RC.reg [⟨(some 6), .bin (.int .eql) (.t 4) (.c (.int .i64 1)), none, [4]⟩,
 ⟨(some 5), .mv (.t 6), none, [6]⟩])
 (RC.cond (.t 5)
 (RC.seq (RC.reg [⟨(some 7), .fa 1 (.t 1), none, [1]⟩,
 ⟨(some 8), .ld1 (.t 7), none, [7]⟩,
 ⟨(some 9), .call 130 [(.t 8)], none, [8]⟩,
 ⟨(some 10), .mv (.t 9), none, [9]⟩,
 ⟨(some 11), .fa 2 (.t 1), (some (10, true)), [1, 10]⟩,
 ⟨(some 12), .ld1 (.t 11), (some (10, true)), [11, 10]⟩,
 ⟨(some 13), .bin (.str .eql) (.t 12) (.c (.str [])), (some (10, true)), [12, 10]⟩,
 ⟨(some 14), .pick (.t 10) (.t 13) (.c (.bool false)), none, [10, 13]⟩,
 ⟨(some 2), .mv (.t 14), none, [14]⟩])
 (RC.ret))
 (RC.seq (RC.reg [⟨(some 16), .bin (.int .eql) (.t 4) (.c (.int .i64 2)), none, [4]⟩,
 ⟨(some 15), .mv (.t 16), none, [16]⟩])
 (RC.cond (.t 15)
 (RC.seq (RC.reg [⟨(some 17), .fa 1 (.t 1), none, [1]⟩,
 ⟨(some 18), .ld1 (.t 17), none, [17]⟩,
 ⟨(some 19), .call 163 [(.t 18)], none, [18]⟩,
 ⟨(some 20), .mv (.t 19), none, [19]⟩,
 ⟨(some 21), .fa 2 (.t 1), (some (20, true)), [1, 20]⟩,
 ⟨(some 22), .ld1 (.t 21), (some (20, true)), [21, 20]⟩,
 ⟨(some 23), .bin (.str .eql) (.t 22) (.c (.str [])), (some (20, true)), [22, 20]⟩,
 ⟨(some 24), .pick (.t 20) (.t 23) (.c (.bool false)), none, [20, 23]⟩,
 ⟨(some 2), .mv (.t 24), none, [24]⟩])
 (RC.ret))
 (RC.seq (RC.reg [⟨(some 26), .bin (.int .eql) (.t 4) (.c (.int .i64 3)), none, [4]⟩,
 ⟨(some 25), .mv (.t 26), none, [26]⟩])
 (RC.cond (.t 25)
 (RC.seq (RC.reg [⟨(some 27), .fa 1 (.t 1), none, [1]⟩,
 ⟨(some 28), .ld1 (.t 27), none, [27]⟩,
 ⟨(some 29), .bin (.int .eql) (.t 28) (.c (.int .i64 0)), none, [28]⟩,
 ⟨(some 30), .mv (.t 29), none, [29]⟩,
 ⟨(some 31), .fa 2 (.t 1), (some (30, true)), [1, 30]⟩,
 ⟨(some 32), .ld1 (.t 31), (some (30, true)), [31, 30]⟩,
 ⟨(some 33), .len .str (.t 32), (some (30, true)), [32, 30]⟩,
 ⟨(some 34), .bin (.int .leq) (.t 33) (.c (.int .i64 4096)), (some (30, true)), [33, 30]⟩,
 ⟨(some 35), .pick (.t 30) (.t 34) (.c (.bool false)), none, [30, 34]⟩,
 ⟨(some 2), .mv (.t 35), none, [35]⟩])
 (RC.ret))
 (RC.skip)))))))))
 (RC.seq (RC.reg [⟨(some 2), .mv (.c (.bool false)), none, []⟩])
 (RC.ret)))
theorem c162_ok : resK Tryz.prog Tryz.f162.ntmps (Tryz.f162.body.getD .skip) = c162 := by kernel_rfl
theorem c162_res : resR Tryz.prog Tryz.f162.ntmps Tryz.f162.results.toList = [.t 2] := by kernel_rfl
theorem c162_ctr {args : List V} {h : Heap} {K : V → Heap → Prop} (hl : Nat.ble args.length 36 = true) (H : wpC Tryz.prog c162 (RF.ofL args) h fun e r h' => e.ends ∧ ∃ vs, evR r h' [.t 2] = some vs ∧ K (oneOf vs) h') : Ctr Tryz.prog 162 args h K :=
 ctr_of_wp follows namesOk Tryz.func162 (c := Tryz.f162.body.getD .skip) (by kernel_rfl) (by kernel_rfl) hl c162_ok c162_res H
def c163 : RC :=
 RC.seq (RC.reg [⟨(some 2), .mv (.c (.bool false)), none, []⟩])
 (RC.seq (RC.reg [⟨(some 3), .mv (.t 0), none, [0]⟩,
 ⟨(some 4), .bin (.int .geq) (.t 3) (.c (.int .i64 (-1073741824))), none, [3]⟩,
 ⟨(some 5), .mv (.t 4), none, [4]⟩,
 ⟨(some 6), .mv (.t 0), (some (5, true)), [0, 5]⟩,
 ⟨(some 7), .bin (.int .leq) (.t 6) (.c (.int .i64 1073741823)), (some (5, true)), [6, 5]⟩,
 ⟨(some 8), .pick (.t 5) (.t 7) (.c (.bool false)), none, [5, 7]⟩,
 ⟨(some 2), .mv (.t 8), none, [8]⟩])
 (RC.ret))
theorem c163_ok : resK Tryz.prog Tryz.f163.ntmps (Tryz.f163.body.getD .skip) = c163 := by kernel_rfl
theorem c163_res : resR Tryz.prog Tryz.f163.ntmps Tryz.f163.results.toList = [.t 2] := by kernel_rfl
theorem c163_ctr {args : List V} {h : Heap} {K : V → Heap → Prop} (hl : Nat.ble args.length 9 = true) (H : wpC Tryz.prog c163 (RF.ofL args) h fun e r h' => e.ends ∧ ∃ vs, evR r h' [.t 2] = some vs ∧ K (oneOf vs) h') : Ctr Tryz.prog 163 args h K :=
 ctr_of_wp follows namesOk Tryz.func163 (c := Tryz.f163.body.getD .skip) (by kernel_rfl) (by kernel_rfl) hl c163_ok c163_res H
end Go.Proofs.YtjbiefneffiogaaGreat
