/- The chapter's functions, walked by the abstract machine: plain lemmas, no condition. -/
import Derived.Test.YtkjifhoiiciblaaM3
import Derived.Test.YtkjifhoiiciblaaRows

namespace Go.Proofs.Ytkjifhoiiciblaa
open Go Am
theorem follows : Try.prog.follows .mixedOrders = true := by kernel_rfl
theorem names : (Try.prog.funcs.toList.all fun fn => !(fn.name == "runtime.NumGoroutine")) = true := by kernel_rfl
theorem namesOk : NamesOk Try.prog := by
  intro f fn h
  have := List.all_eq_true.1 names fn (List.mem_of_getElem? (i := f) (by simpa using h))
  simpa using this
/-- gimlet/stack.list -/
def c27 : RC :=
  RC.seq (RC.reg [⟨(some 2), .mv (.c (.bool false)), none, []⟩])
  (RC.seq (RC.reg [⟨(some 3), .mv (.t 0), none, [0]⟩,
     ⟨(some 4), .bin (.int .eql) (.t 3) (.c (.int .i64 2)), none, [3]⟩,
     ⟨(some 5), .mv (.t 4), none, [4]⟩,
     ⟨(some 6), .mv (.t 0), (some (5, false)), [0, 5]⟩,
     ⟨(some 7), .bin (.int .eql) (.t 6) (.c (.int .i64 3)), (some (5, false)), [6, 5]⟩,
     ⟨(some 8), .pick (.t 5) (.c (.bool true)) (.t 7), none, [5, 7]⟩,
     ⟨(some 9), .mv (.t 8), none, [8]⟩,
     ⟨(some 10), .mv (.t 0), (some (9, false)), [0, 9]⟩,
     ⟨(some 11), .bin (.int .eql) (.t 10) (.c (.int .i64 4)), (some (9, false)), [10, 9]⟩,
     ⟨(some 12), .pick (.t 9) (.c (.bool true)) (.t 11), none, [9, 11]⟩,
     ⟨(some 13), .mv (.t 12), none, [12]⟩,
     ⟨(some 14), .mv (.t 0), (some (13, false)), [0, 13]⟩,
     ⟨(some 15), .bin (.int .eql) (.t 14) (.c (.int .i64 5)), (some (13, false)), [14, 13]⟩,
     ⟨(some 16), .pick (.t 13) (.c (.bool true)) (.t 15), none, [13, 15]⟩,
     ⟨(some 2), .mv (.t 16), none, [16]⟩])
  (RC.ret))
theorem c27_ok : resK Try.prog Try.f27.ntmps (Try.f27.body.getD .skip) = c27 := by kernel_rfl
theorem c27_res : resR Try.prog Try.f27.ntmps Try.f27.results.toList = [.t 2] := by kernel_rfl
theorem c27_ctr {args : List V} {h : Heap} {K : V → Heap → Prop} (hl : Nat.ble args.length 17 = true) (H : wpC Try.prog c27 (RF.ofL args) h fun e r h' => e.ends ∧ ∃ vs, evR r h' [.t 2] = some vs ∧ K (oneOf vs) h') : Ctr Try.prog 27 args h K :=
  ctr_of_wp follows namesOk Try.func27 (c := Try.f27.body.getD .skip) (by kernel_rfl) (by kernel_rfl) hl c27_ok c27_res H

/-- gimlet/gimletref10.lists -/
def c37 : RC :=
  RC.seq (RC.reg [⟨(some 2), .mv (.c (.bool false)), none, []⟩])
  (RC.seq (RC.reg [⟨(some 3), .mv (.t 0), none, [0]⟩,
     ⟨(some 4), .bin (.int .eql) (.t 3) (.c (.int .i64 2)), none, [3]⟩,
     ⟨(some 5), .mv (.t 4), none, [4]⟩,
     ⟨(some 6), .mv (.t 0), (some (5, false)), [0, 5]⟩,
     ⟨(some 7), .bin (.int .eql) (.t 6) (.c (.int .i64 3)), (some (5, false)), [6, 5]⟩,
     ⟨(some 8), .pick (.t 5) (.c (.bool true)) (.t 7), none, [5, 7]⟩,
     ⟨(some 9), .mv (.t 8), none, [8]⟩,
     ⟨(some 10), .mv (.t 0), (some (9, false)), [0, 9]⟩,
     ⟨(some 11), .bin (.int .eql) (.t 10) (.c (.int .i64 4)), (some (9, false)), [10, 9]⟩,
     ⟨(some 12), .pick (.t 9) (.c (.bool true)) (.t 11), none, [9, 11]⟩,
     ⟨(some 13), .mv (.t 12), none, [12]⟩,
     ⟨(some 14), .mv (.t 0), (some (13, false)), [0, 13]⟩,
     ⟨(some 15), .bin (.int .eql) (.t 14) (.c (.int .i64 5)), (some (13, false)), [14, 13]⟩,
     ⟨(some 16), .pick (.t 13) (.c (.bool true)) (.t 15), none, [13, 15]⟩,
     ⟨(some 2), .mv (.t 16), none, [16]⟩])
  (RC.ret))
theorem c37_ok : resK Try.prog Try.f37.ntmps (Try.f37.body.getD .skip) = c37 := by kernel_rfl
theorem c37_res : resR Try.prog Try.f37.ntmps Try.f37.results.toList = [.t 2] := by kernel_rfl
theorem c37_ctr {args : List V} {h : Heap} {K : V → Heap → Prop} (hl : Nat.ble args.length 17 = true) (H : wpC Try.prog c37 (RF.ofL args) h fun e r h' => e.ends ∧ ∃ vs, evR r h' [.t 2] = some vs ∧ K (oneOf vs) h') : Ctr Try.prog 37 args h K :=
  ctr_of_wp follows namesOk Try.func37 (c := Try.f37.body.getD .skip) (by kernel_rfl) (by kernel_rfl) hl c37_ok c37_res H

/-- gimlet/stack.Check -/
def c8l1 : RC :=
  RC.seq (RC.reg [⟨(some 31), .bin (.int .lss) (.t 30) (.t 29), none, [30, 29]⟩])
  (RC.seq (RC.cond (.t 31)
    (RC.skip)
    (RC.exit 0))
  (RC.seq (RC.block 1 (RC.seq (RC.reg [⟨(some 32), .mv (.t 30), none, [30]⟩,
       ⟨(some 33), .ia 4 (.t 28) (.t 30), none, [28, 30]⟩,
       ⟨(some 34), .ldn 4 (.t 33), none, [33]⟩,
       ⟨(some 5), .new [(.int .i64 0), (.int .i64 0), (.int .i64 0), (.bool false)], none, []⟩,
       ⟨(some 4), .mv (.t 32), none, [32]⟩,
       ⟨none, .st 4 (.t 5) (.t 34), none, [5, 34]⟩])
    (RC.seq (RC.reg [⟨(some 35), .mv (.t 4), none, [4]⟩,
       ⟨(some 36), .bin (.int .eql) (.t 35) (.c (.int .i64 0)), none, [35]⟩,
       ⟨(some 37), .mv (.t 36), none, [36]⟩,
       ⟨(some 38), .fa 0 (.t 5), (some (37, true)), [5, 37]⟩,
       ⟨(some 39), .ld1 (.t 38), (some (37, true)), [38, 37]⟩,
       ⟨(some 40), .bin (.int .eql) (.t 39) (.c (.int .i64 0)), (some (37, true)), [39, 37]⟩,
       ⟨(some 41), .pick (.t 37) (.t 40) (.c (.bool false)), none, [37, 40]⟩,
       ⟨(some 42), .mv (.t 41), none, [41]⟩,
       ⟨(some 43), .fa 1 (.t 5), (some (42, true)), [5, 42]⟩,
       ⟨(some 44), .ld1 (.t 43), (some (42, true)), [43, 42]⟩,
       ⟨(some 45), .bin (.int .eql) (.t 44) (.c (.int .i64 0)), (some (42, true)), [44, 42]⟩,
       ⟨(some 46), .pick (.t 42) (.t 45) (.c (.bool false)), none, [42, 45]⟩,
       ⟨(some 6), .mv (.t 46), none, [46]⟩])
    (RC.seq (RC.seq (RC.reg [⟨(some 47), .mv (.t 6), none, [6]⟩,
        ⟨(some 48), .un .not (.t 47), none, [47]⟩,
        ⟨(some 49), .mv (.t 48), none, [48]⟩,
        ⟨(some 50), .mv (.t 4), (some (49, true)), [4, 49]⟩,
        ⟨(some 51), .bin (.int .eql) (.t 50) (.c (.int .i64 0)), (some (49, true)), [50, 49]⟩,
        ⟨(some 52), .mv (.t 51), (some (49, true)), [51, 49]⟩,
        ⟨(some 53), .fa 0 (.t 5), (some (52, false)), [5, 52]⟩,
        ⟨(some 54), .ld1 (.t 53), (some (52, false)), [53, 52]⟩,
        ⟨(some 55), .call 27 [(.t 54)], (some (52, false)), [54, 52]⟩,
        ⟨(some 56), .un .not (.t 55), (some (52, false)), [55, 52]⟩,
        ⟨(some 57), .pick (.t 52) (.c (.bool true)) (.t 56), (some (49, true)), [52, 56, 49]⟩,
        ⟨(some 58), .pick (.t 49) (.t 57) (.c (.bool false)), none, [49, 57]⟩,
        ⟨(some 59), .mv (.t 58), none, [58]⟩,
        ⟨(some 60), .fa 1 (.t 5), (some (59, false)), [5, 59]⟩,
        ⟨(some 61), .ld1 (.t 60), (some (59, false)), [60, 59]⟩,
        ⟨(some 62), .mv (.t 3), (some (59, false)), [3, 59]⟩,
        ⟨(some 63), .bin (.int .lss) (.t 61) (.t 62), (some (59, false)), [61, 62, 59]⟩,
        ⟨(some 64), .pick (.t 59) (.c (.bool true)) (.t 63), none, [59, 63]⟩,
        ⟨(some 65), .mv (.t 64), none, [64]⟩,
        ⟨(some 66), .fa 1 (.t 5), (some (65, false)), [5, 65]⟩,
        ⟨(some 67), .ld1 (.t 66), (some (65, false)), [66, 65]⟩,
        ⟨(some 68), .fa 0 (.t 1), (some (65, false)), [1, 65]⟩,
        ⟨(some 69), .ld1 (.t 68), (some (65, false)), [68, 65]⟩,
        ⟨(some 70), .bin (.int .gtr) (.t 67) (.t 69), (some (65, false)), [67, 69, 65]⟩,
        ⟨(some 71), .pick (.t 65) (.c (.bool true)) (.t 70), none, [65, 70]⟩,
        ⟨(some 72), .mv (.t 71), none, [71]⟩,
        ⟨(some 73), .fa 2 (.t 5), (some (72, false)), [5, 72]⟩,
        ⟨(some 74), .ld1 (.t 73), (some (72, false)), [73, 72]⟩,
        ⟨(some 75), .bin (.int .lss) (.t 74) (.c (.int .i64 0)), (some (72, false)), [74, 72]⟩,
        ⟨(some 76), .pick (.t 72) (.c (.bool true)) (.t 75), none, [72, 75]⟩,
        ⟨(some 77), .mv (.t 76), none, [76]⟩,
        ⟨(some 78), .fa 2 (.t 5), (some (77, false)), [5, 77]⟩,
        ⟨(some 79), .ld1 (.t 78), (some (77, false)), [78, 77]⟩,
        ⟨(some 80), .bin (.int .gtr) (.t 79) (.c (.int .i64 1)), (some (77, false)), [79, 77]⟩,
        ⟨(some 81), .pick (.t 77) (.c (.bool true)) (.t 80), none, [77, 80]⟩])
     (RC.cond (.t 81)
      (RC.seq (RC.reg [⟨(some 2), .mv (.c (.int .i64 2)), none, []⟩])
       (RC.ret))
      (RC.skip)))
    (RC.reg [⟨(some 82), .fa 1 (.t 5), none, [5]⟩,
      ⟨(some 83), .ld1 (.t 82), none, [82]⟩,
      ⟨(some 3), .mv (.t 83), none, [83]⟩])))))
  (RC.reg [⟨(some 84), .bin (.int .add) (.t 30) (.c (.int .i64 1)), none, [30]⟩,
    ⟨(some 30), .mv (.t 84), none, [84]⟩])))
def c8 : RC :=
  RC.seq (RC.reg [⟨(some 1), .box (.t 0), none, [0]⟩,
     ⟨(some 2), .mv (.c (.int .i64 0)), none, []⟩])
  (RC.seq (RC.seq (RC.reg [⟨(some 7), .fa 0 (.t 1), none, [1]⟩,
      ⟨(some 8), .ld1 (.t 7), none, [7]⟩,
      ⟨(some 9), .bin (.int .lss) (.t 8) (.c (.int .i64 0)), none, [8]⟩,
      ⟨(some 10), .mv (.t 9), none, [9]⟩,
      ⟨(some 11), .fa 0 (.t 1), (some (10, false)), [1, 10]⟩,
      ⟨(some 12), .ld1 (.t 11), (some (10, false)), [11, 10]⟩,
      ⟨(some 13), .bin (.int .gtr) (.t 12) (.c (.int .i64 1073741824)), (some (10, false)), [12, 10]⟩,
      ⟨(some 14), .pick (.t 10) (.c (.bool true)) (.t 13), none, [10, 13]⟩,
      ⟨(some 15), .mv (.t 14), none, [14]⟩,
      ⟨(some 16), .fa 1 (.t 1), (some (15, false)), [1, 15]⟩,
      ⟨(some 17), .ld1 (.t 16), (some (15, false)), [16, 15]⟩,
      ⟨(some 18), .len .slice (.t 17), (some (15, false)), [17, 15]⟩,
      ⟨(some 19), .bin (.int .lss) (.t 18) (.c (.int .i64 1)), (some (15, false)), [18, 15]⟩,
      ⟨(some 20), .pick (.t 15) (.c (.bool true)) (.t 19), none, [15, 19]⟩,
      ⟨(some 21), .mv (.t 20), none, [20]⟩,
      ⟨(some 22), .fa 1 (.t 1), (some (21, false)), [1, 21]⟩,
      ⟨(some 23), .ld1 (.t 22), (some (21, false)), [22, 21]⟩,
      ⟨(some 24), .len .slice (.t 23), (some (21, false)), [23, 21]⟩,
      ⟨(some 25), .bin (.int .gtr) (.t 24) (.c (.int .i64 1000)), (some (21, false)), [24, 21]⟩,
      ⟨(some 26), .pick (.t 21) (.c (.bool true)) (.t 25), none, [21, 25]⟩])
   (RC.cond (.t 26)
    (RC.seq (RC.reg [⟨(some 2), .mv (.c (.int .i64 2)), none, []⟩])
     (RC.ret))
    (RC.skip)))
  (RC.seq (RC.reg [⟨(some 3), .mv (.c (.int .i64 0)), none, []⟩])
  (RC.seq (RC.seq (RC.reg [⟨(some 27), .fa 1 (.t 1), none, [1]⟩,
      ⟨(some 28), .ld1 (.t 27), none, [27]⟩,
      ⟨(some 29), .len .slice (.t 28), none, [28]⟩,
      ⟨(some 30), .mv (.c (.int .i64 0)), none, []⟩])
   (RC.block 0 (RC.loop c8l1)))
  (RC.seq (RC.reg [⟨(some 2), .mv (.c (.int .i64 0)), none, []⟩])
  (RC.ret)))))
theorem c8_ok : resK Try.prog Try.f8.ntmps (Try.f8.body.getD .skip) = c8 := by kernel_rfl
theorem c8_res : resR Try.prog Try.f8.ntmps Try.f8.results.toList = [.t 2] := by kernel_rfl
theorem c8_ctr {args : List V} {h : Heap} {K : V → Heap → Prop} (hl : Nat.ble args.length 85 = true) (H : wpC Try.prog c8 (RF.ofL args) h fun e r h' => e.ends ∧ ∃ vs, evR r h' [.t 2] = some vs ∧ K (oneOf vs) h') : Ctr Try.prog 8 args h K :=
  ctr_of_wp follows namesOk Try.func8 (c := Try.f8.body.getD .skip) (by kernel_rfl) (by kernel_rfl) hl c8_ok c8_res H

/-- slices.Clone[[]gimlet/api.Frame,gimlet/api.Frame] -/
def c39 : RC :=
  RC.seq (RC.reg [⟨(some 2), .mv (.c .nilslice), none, []⟩])
  (RC.seq (RC.seq (RC.reg [⟨(some 3), .mv (.t 0), none, [0]⟩,
      ⟨(some 4), .bin (.eqn false 2) (.t 3) (.c .nilslice), none, [3]⟩])
   (RC.cond (.t 4)
    (RC.seq (RC.reg [⟨(some 2), .mv (.c .nilslice), none, []⟩])
     (RC.ret))
    (RC.skip)))
  (RC.seq (RC.reg [⟨(some 5), .bsl 0 4 [(.int .i64 0), (.int .i64 0), (.int .i64 0), (.bool false)] [], none, []⟩,
     ⟨(some 6), .mv (.t 0), none, [0]⟩,
     ⟨(some 7), .app 4 (.t 5) (.t 6), none, [5, 6]⟩,
     ⟨(some 2), .mv (.t 7), none, [7]⟩])
  (RC.ret)))
theorem c39_ok : resK Try.prog Try.f39.ntmps (Try.f39.body.getD .skip) = c39 := by kernel_rfl
theorem c39_res : resR Try.prog Try.f39.ntmps Try.f39.results.toList = [.t 2] := by kernel_rfl
theorem c39_ctr {args : List V} {h : Heap} {K : V → Heap → Prop} (hl : Nat.ble args.length 8 = true) (H : wpC Try.prog c39 (RF.ofL args) h fun e r h' => e.ends ∧ ∃ vs, evR r h' [.t 2] = some vs ∧ K (oneOf vs) h') : Ctr Try.prog 39 args h K :=
  ctr_of_wp follows namesOk Try.func39 (c := Try.f39.body.getD .skip) (by kernel_rfl) (by kernel_rfl) hl c39_ok c39_res H

/-- gimlet/stack.turned -/
def c28 : RC :=
  RC.seq (RC.reg [⟨(some 3), .box (.t 0), none, [0]⟩,
     ⟨(some 6), .new [(.int .i64 0), .nilslice], none, []⟩,
     ⟨(some 7), .mv (.c (.int .i64 0)), none, []⟩])
  (RC.seq (RC.seq (RC.reg [⟨(some 9), .mv (.t 1), none, [1]⟩,
      ⟨(some 10), .un .not (.t 9), none, [9]⟩,
      ⟨(some 11), .mv (.t 10), none, [10]⟩,
      ⟨(some 12), .ldn 2 (.t 3), (some (11, false)), [3, 11]⟩,
      ⟨(some 13), .call 8 [(.t 12)], (some (11, false)), [12, 11]⟩,
      ⟨(some 14), .bin (.int .neq) (.t 13) (.c (.int .i64 0)), (some (11, false)), [13, 11]⟩,
      ⟨(some 15), .pick (.t 11) (.c (.bool true)) (.t 14), none, [11, 14]⟩])
   (RC.cond (.t 15)
    (RC.seq (RC.reg [⟨(some 16), .build [(.int .i64 0), .nilslice] [], none, []⟩,
        ⟨none, .st 2 (.t 6) (.t 16), none, [6, 16]⟩,
        ⟨(some 7), .mv (.c (.int .i64 2)), none, []⟩])
     (RC.ret))
    (RC.skip)))
  (RC.seq (RC.reg [⟨(some 17), .fa 1 (.t 3), none, [3]⟩,
     ⟨(some 18), .ld1 (.t 17), none, [17]⟩,
     ⟨(some 19), .call 39 [(.t 18)], none, [18]⟩,
     ⟨(some 20), .fa 1 (.t 3), none, [3]⟩,
     ⟨none, .st 1 (.t 20) (.t 19), none, [20, 19]⟩])
  (RC.seq (RC.seq (RC.reg [⟨(some 21), .mv (.t 2), none, [2]⟩,
      ⟨(some 22), .fa 1 (.t 3), none, [3]⟩,
      ⟨(some 23), .ld1 (.t 22), none, [22]⟩,
      ⟨(some 24), .fa 1 (.t 3), none, [3]⟩,
      ⟨(some 25), .ld1 (.t 24), none, [24]⟩,
      ⟨(some 26), .len .slice (.t 25), none, [25]⟩,
      ⟨(some 27), .bin (.int .sub) (.t 26) (.c (.int .i64 1)), none, [26]⟩,
      ⟨(some 28), .ia 4 (.t 23) (.t 27), none, [23, 27]⟩,
      ⟨(some 29), .callv (.t 21) [(.t 3), (.t 28)], none, [21, 3, 28]⟩,
      ⟨(some 8), .mv (.t 29), none, [29]⟩])
   (RC.seq (RC.reg [⟨(some 30), .mv (.t 8), none, [8]⟩,
      ⟨(some 31), .bin (.int .neq) (.t 30) (.c (.int .i64 0)), none, [30]⟩])
   (RC.cond (.t 31)
    (RC.seq (RC.reg [⟨(some 32), .build [(.int .i64 0), .nilslice] [], none, []⟩,
        ⟨(some 33), .mv (.t 8), none, [8]⟩,
        ⟨none, .st 2 (.t 6) (.t 32), none, [6, 32]⟩,
        ⟨(some 7), .mv (.t 33), none, [33]⟩])
     (RC.ret))
    (RC.skip))))
  (RC.seq (RC.reg [⟨(some 34), .ldn 2 (.t 3), none, [3]⟩,
     ⟨none, .st 2 (.t 6) (.t 34), none, [6, 34]⟩,
     ⟨(some 7), .mv (.c (.int .i64 0)), none, []⟩])
  (RC.ret)))))
theorem c28_ok : resK Try.prog Try.f28.ntmps (Try.f28.body.getD .skip) = c28 := by kernel_rfl
theorem c28_res : resR Try.prog Try.f28.ntmps Try.f28.results.toList = [.cn 6 2, .t 7] := by kernel_rfl
theorem c28_ctr {args : List V} {h : Heap} {K : V → Heap → Prop} (hl : Nat.ble args.length 35 = true) (H : wpC Try.prog c28 (RF.ofL args) h fun e r h' => e.ends ∧ ∃ vs, evR r h' [.cn 6 2, .t 7] = some vs ∧ K (oneOf vs) h') : Ctr Try.prog 28 args h K :=
  ctr_of_wp follows namesOk Try.func28 (c := Try.f28.body.getD .skip) (by kernel_rfl) (by kernel_rfl) hl c28_ok c28_res H

/-- gimlet/stack.Push$1 -/
def c29 : RC :=
  RC.seq (RC.reg [⟨(some 5), .mv (.c (.int .i64 0)), none, []⟩])
  (RC.seq (RC.reg [⟨(some 6), .mv (.t 0), none, [0]⟩,
     ⟨(some 7), .ld1 (.t 2), none, [2]⟩,
     ⟨(some 8), .call 30 [(.t 6), (.t 7)], none, [6, 7]⟩,
     ⟨(some 5), .mv (.t 8), none, [8]⟩])
  (RC.ret))
theorem c29_ok : resK Try.prog Try.f29.ntmps (Try.f29.body.getD .skip) = c29 := by kernel_rfl
theorem c29_res : resR Try.prog Try.f29.ntmps Try.f29.results.toList = [.t 5] := by kernel_rfl
theorem c29_ctr {args : List V} {h : Heap} {K : V → Heap → Prop} (hl : Nat.ble args.length 9 = true) (H : wpC Try.prog c29 (RF.ofL args) h fun e r h' => e.ends ∧ ∃ vs, evR r h' [.t 5] = some vs ∧ K (oneOf vs) h') : Ctr Try.prog 29 args h K :=
  ctr_of_wp follows namesOk Try.func29 (c := Try.f29.body.getD .skip) (by kernel_rfl) (by kernel_rfl) hl c29_ok c29_res H

/-- gimlet/stack.push -/
def c30 : RC :=
  RC.seq (RC.reg [⟨(some 4), .mv (.c (.int .i64 0)), none, []⟩])
  (RC.seq (RC.seq (RC.reg [⟨(some 5), .mv (.t 1), none, [1]⟩,
      ⟨(some 6), .mv (.t 0), none, [0]⟩,
      ⟨(some 7), .nilck (.t 6), none, [6]⟩,
      ⟨(some 8), .fa 0 (.t 7), none, [7]⟩,
      ⟨(some 9), .ld1 (.t 8), none, [8]⟩,
      ⟨(some 10), .bin (.int .sub) (.c (.int .i64 1073741824)) (.t 9), none, [9]⟩,
      ⟨(some 11), .bin (.int .gtr) (.t 5) (.t 10), none, [5, 10]⟩])
   (RC.cond (.t 11)
    (RC.seq (RC.reg [⟨(some 4), .mv (.c (.int .i64 8)), none, []⟩])
     (RC.ret))
    (RC.skip)))
  (RC.seq (RC.reg [⟨(some 12), .mv (.t 0), none, [0]⟩,
     ⟨(some 13), .nilck (.t 12), none, [12]⟩,
     ⟨(some 14), .fa 0 (.t 13), none, [13]⟩,
     ⟨(some 15), .ld1 (.t 14), none, [14]⟩,
     ⟨(some 16), .mv (.t 1), none, [1]⟩,
     ⟨(some 17), .bin (.int .add) (.t 15) (.t 16), none, [15, 16]⟩,
     ⟨(some 18), .nilck (.t 12), none, [12]⟩,
     ⟨(some 19), .fa 0 (.t 18), none, [18]⟩,
     ⟨none, .st 1 (.t 19) (.t 17), none, [19, 17]⟩])
  (RC.seq (RC.reg [⟨(some 4), .mv (.c (.int .i64 0)), none, []⟩])
  (RC.ret))))
theorem c30_ok : resK Try.prog Try.f30.ntmps (Try.f30.body.getD .skip) = c30 := by kernel_rfl
theorem c30_res : resR Try.prog Try.f30.ntmps Try.f30.results.toList = [.t 4] := by kernel_rfl
theorem c30_ctr {args : List V} {h : Heap} {K : V → Heap → Prop} (hl : Nat.ble args.length 20 = true) (H : wpC Try.prog c30 (RF.ofL args) h fun e r h' => e.ends ∧ ∃ vs, evR r h' [.t 4] = some vs ∧ K (oneOf vs) h') : Ctr Try.prog 30 args h K :=
  ctr_of_wp follows namesOk Try.func30 (c := Try.f30.body.getD .skip) (by kernel_rfl) (by kernel_rfl) hl c30_ok c30_res H

/-- gimlet/stack.Pop$1 -/
def c31 : RC :=
  RC.seq (RC.reg [⟨(some 5), .mv (.c (.int .i64 0)), none, []⟩])
  (RC.seq (RC.reg [⟨(some 6), .mv (.t 0), none, [0]⟩,
     ⟨(some 7), .mv (.t 1), none, [1]⟩,
     ⟨(some 8), .ld1 (.t 2), none, [2]⟩,
     ⟨(some 9), .call 32 [(.t 6), (.t 7), (.t 8)], none, [6, 7, 8]⟩,
     ⟨(some 5), .mv (.t 9), none, [9]⟩])
  (RC.ret))
theorem c31_ok : resK Try.prog Try.f31.ntmps (Try.f31.body.getD .skip) = c31 := by kernel_rfl
theorem c31_res : resR Try.prog Try.f31.ntmps Try.f31.results.toList = [.t 5] := by kernel_rfl
theorem c31_ctr {args : List V} {h : Heap} {K : V → Heap → Prop} (hl : Nat.ble args.length 10 = true) (H : wpC Try.prog c31 (RF.ofL args) h fun e r h' => e.ends ∧ ∃ vs, evR r h' [.t 5] = some vs ∧ K (oneOf vs) h') : Ctr Try.prog 31 args h K :=
  ctr_of_wp follows namesOk Try.func31 (c := Try.f31.body.getD .skip) (by kernel_rfl) (by kernel_rfl) hl c31_ok c31_res H

/-- gimlet/stack.pop -/
def c32 : RC :=
  RC.seq (RC.reg [⟨(some 6), .mv (.c (.int .i64 0)), none, []⟩])
  (RC.seq (RC.seq (RC.draw [⟨(some 7), .mv (.t 2), none, [2]⟩,
      ⟨(some 8), .mv (.t 0), none, [0]⟩,
      ⟨(some 9), .nilck (.t 8), none, [8]⟩,
      ⟨(some 10), .fa 0 (.t 9), none, [9]⟩,
      ⟨(some 11), .ld1 (.t 10), none, [10]⟩,
      ⟨(some 12), .mv (.t 1), none, [1]⟩,
      ⟨(some 13), .nilck (.t 12), none, [12]⟩,
      ⟨(some 14), .fa 1 (.t 13), none, [13]⟩,
      ⟨(some 15), .ld1 (.t 14), none, [14]⟩,
      ⟨(some 16), .bin (.int .sub) (.t 11) (.t 15), none, [11, 15]⟩,
      ⟨(some 17), .bin (.int .gtr) (.t 7) (.t 16), none, [7, 16]⟩,
      ⟨(some 18), .mv (.t 17), none, [17]⟩,
      ⟨(some 19), .mv (.t 1), (some (18, true)), [1, 18]⟩,
      ⟨(some 20), .nilck (.t 19), (some (18, true)), [19, 18]⟩,
      ⟨(some 21), .fa 3 (.t 20), (some (18, true)), [20, 18]⟩,
      ⟨(some 22), .ld1 (.t 21), (some (18, true)), [21, 18]⟩,
      ⟨(some 23), .un .not (.t 22), (some (18, true)), [22, 18]⟩,
      ⟨(some 24), .pick (.t 18) (.t 23) (.c (.bool false)), none, [18, 23]⟩] [])
   (RC.cond (.t 24)
    (RC.seq (RC.reg [⟨(some 6), .mv (.c (.int .i64 200)), none, []⟩])
     (RC.ret))
    (RC.skip)))
  (RC.seq (RC.draw [⟨(some 25), .mv (.t 0), none, [0]⟩,
     ⟨(some 26), .nilck (.t 25), none, [25]⟩,
     ⟨(some 27), .fa 0 (.t 26), none, [26]⟩,
     ⟨(some 28), .ld1 (.t 27), none, [27]⟩,
     ⟨(some 29), .mv (.t 2), none, [2]⟩,
     ⟨(some 30), .mv (.t 0), none, [0]⟩,
     ⟨(some 31), .nilck (.t 30), none, [30]⟩,
     ⟨(some 32), .fa 0 (.t 31), none, [31]⟩,
     ⟨(some 33), .ld1 (.t 32), none, [32]⟩,
     ⟨(some 34), .mv (.t 1), none, [1]⟩,
     ⟨(some 35), .nilck (.t 34), none, [34]⟩,
     ⟨(some 36), .fa 1 (.t 35), none, [35]⟩,
     ⟨(some 37), .ld1 (.t 36), none, [36]⟩,
     ⟨(some 38), .bin (.int .sub) (.t 33) (.t 37), none, [33, 37]⟩,
     ⟨(some 39), .mn [(.t 29), (.t 38)], none, [29, 38]⟩,
     ⟨(some 40), .bin (.int .sub) (.t 28) (.t 39), none, [28, 39]⟩,
     ⟨(some 41), .nilck (.t 25), none, [25]⟩,
     ⟨(some 42), .fa 0 (.t 41), none, [41]⟩,
     ⟨none, .st 1 (.t 42) (.t 40), none, [42, 40]⟩] [(3, [18]), (8, [18]), (12, [18])])
  (RC.seq (RC.reg [⟨(some 6), .mv (.c (.int .i64 0)), none, []⟩])
  (RC.ret))))
theorem c32_ok : resK Try.prog Try.f32.ntmps (Try.f32.body.getD .skip) = c32 := by kernel_rfl
theorem c32_res : resR Try.prog Try.f32.ntmps Try.f32.results.toList = [.t 6] := by kernel_rfl
theorem c32_ctr {args : List V} {h : Heap} {K : V → Heap → Prop} (hl : Nat.ble args.length 43 = true) (H : wpC Try.prog c32 (RF.ofL args) h fun e r h' => e.ends ∧ ∃ vs, evR r h' [.t 6] = some vs ∧ K (oneOf vs) h') : Ctr Try.prog 32 args h K :=
  ctr_of_wp follows namesOk Try.func32 (c := Try.f32.body.getD .skip) (by kernel_rfl) (by kernel_rfl) hl c32_ok c32_res H

/-- gimlet/stack.Dead$1 -/
def c35 : RC :=
  RC.seq (RC.reg [⟨(some 4), .mv (.c (.int .i64 0)), none, []⟩])
  (RC.seq (RC.reg [⟨(some 5), .mv (.t 0), none, [0]⟩,
     ⟨(some 6), .mv (.t 1), none, [1]⟩,
     ⟨(some 7), .mv (.t 1), none, [1]⟩,
     ⟨(some 8), .nilck (.t 7), none, [7]⟩,
     ⟨(some 9), .fa 1 (.t 8), none, [8]⟩,
     ⟨(some 10), .ld1 (.t 9), none, [9]⟩,
     ⟨(some 11), .nilck (.t 5), none, [5]⟩,
     ⟨(some 12), .fa 0 (.t 11), none, [11]⟩,
     ⟨none, .st 1 (.t 12) (.t 10), none, [12, 10]⟩,
     ⟨(some 13), .nilck (.t 6), none, [6]⟩,
     ⟨(some 14), .fa 3 (.t 13), none, [13]⟩,
     ⟨none, .st 1 (.t 14) (.c (.bool true)), none, [14]⟩])
  (RC.seq (RC.reg [⟨(some 4), .mv (.c (.int .i64 0)), none, []⟩])
  (RC.ret)))
theorem c35_ok : resK Try.prog Try.f35.ntmps (Try.f35.body.getD .skip) = c35 := by kernel_rfl
theorem c35_res : resR Try.prog Try.f35.ntmps Try.f35.results.toList = [.t 4] := by kernel_rfl
theorem c35_ctr {args : List V} {h : Heap} {K : V → Heap → Prop} (hl : Nat.ble args.length 15 = true) (H : wpC Try.prog c35 (RF.ofL args) h fun e r h' => e.ends ∧ ∃ vs, evR r h' [.t 4] = some vs ∧ K (oneOf vs) h') : Ctr Try.prog 35 args h K :=
  ctr_of_wp follows namesOk Try.func35 (c := Try.f35.body.getD .skip) (by kernel_rfl) (by kernel_rfl) hl c35_ok c35_res H

/-- gimlet/stack.Enter$1 -/
def c36 : RC :=
  RC.seq (RC.reg [⟨(some 6), .mv (.c (.int .i64 0)), none, []⟩])
  (RC.seq (RC.seq (RC.reg [⟨(some 7), .mv (.t 0), none, [0]⟩,
      ⟨(some 8), .nilck (.t 7), none, [7]⟩,
      ⟨(some 9), .fa 1 (.t 8), none, [8]⟩,
      ⟨(some 10), .ld1 (.t 9), none, [9]⟩,
      ⟨(some 11), .len .slice (.t 10), none, [10]⟩,
      ⟨(some 12), .bin (.int .geq) (.t 11) (.c (.int .i64 1000)), none, [11]⟩])
   (RC.cond (.t 12)
    (RC.seq (RC.reg [⟨(some 6), .mv (.c (.int .i64 8)), none, []⟩])
     (RC.ret))
    (RC.skip)))
  (RC.seq (RC.draw [⟨(some 13), .mv (.t 0), none, [0]⟩,
     ⟨(some 14), .mv (.t 0), none, [0]⟩,
     ⟨(some 15), .nilck (.t 14), none, [14]⟩,
     ⟨(some 16), .fa 1 (.t 15), none, [15]⟩,
     ⟨(some 17), .ld1 (.t 16), none, [16]⟩,
     ⟨(some 18), .ld1 (.t 2), none, [2]⟩,
     ⟨(some 19), .mv (.t 0), none, [0]⟩,
     ⟨(some 20), .nilck (.t 19), none, [19]⟩,
     ⟨(some 21), .fa 0 (.t 20), none, [20]⟩,
     ⟨(some 22), .ld1 (.t 21), none, [21]⟩,
     ⟨(some 23), .ld1 (.t 3), none, [3]⟩,
     ⟨(some 24), .build [(.int .i64 0), (.int .i64 0), (.int .i64 0), (.bool false)] [(0, 1, (.t 18)), (1, 1, (.t 22)), (2, 1, (.t 23))], none, [18, 22, 23]⟩,
     ⟨(some 25), .bsl 1 4 [(.int .i64 0), (.int .i64 0), (.int .i64 0), (.bool false)] [(0, 4, (.t 24))], none, [24]⟩,
     ⟨(some 26), .app 4 (.t 17) (.t 25), none, [17, 25]⟩,
     ⟨(some 27), .nilck (.t 13), none, [13]⟩,
     ⟨(some 28), .fa 1 (.t 27), none, [27]⟩,
     ⟨none, .st 1 (.t 28) (.t 26), none, [28, 26]⟩] [(4, [13]), (5, [13]), (9, [13]), (10, [13])])
  (RC.seq (RC.reg [⟨(some 6), .mv (.c (.int .i64 0)), none, []⟩])
  (RC.ret))))
theorem c36_ok : resK Try.prog Try.f36.ntmps (Try.f36.body.getD .skip) = c36 := by kernel_rfl
theorem c36_res : resR Try.prog Try.f36.ntmps Try.f36.results.toList = [.t 6] := by kernel_rfl
theorem c36_ctr {args : List V} {h : Heap} {K : V → Heap → Prop} (hl : Nat.ble args.length 29 = true) (H : wpC Try.prog c36 (RF.ofL args) h fun e r h' => e.ends ∧ ∃ vs, evR r h' [.t 6] = some vs ∧ K (oneOf vs) h') : Ctr Try.prog 36 args h K :=
  ctr_of_wp follows namesOk Try.func36 (c := Try.f36.body.getD .skip) (by kernel_rfl) (by kernel_rfl) hl c36_ok c36_res H

/-- gimlet/stack.Leave$1 -/
def c38 : RC :=
  RC.seq (RC.reg [⟨(some 4), .mv (.c (.int .i64 0)), none, []⟩])
  (RC.seq (RC.draw [⟨(some 8), .mv (.t 1), none, [1]⟩,
     ⟨(some 9), .nilck (.t 8), none, [8]⟩,
     ⟨(some 10), .fa 2 (.t 9), none, [9]⟩,
     ⟨(some 11), .ld1 (.t 10), none, [10]⟩,
     ⟨(some 12), .mv (.t 1), none, [1]⟩,
     ⟨(some 13), .nilck (.t 12), none, [12]⟩,
     ⟨(some 14), .fa 1 (.t 13), none, [13]⟩,
     ⟨(some 15), .ld1 (.t 14), none, [14]⟩,
     ⟨(some 5), .mv (.t 11), none, [11]⟩,
     ⟨(some 6), .mv (.t 15), none, [15]⟩] [])
  (RC.seq (RC.seq (RC.reg [⟨(some 16), .mv (.t 0), none, [0]⟩,
      ⟨(some 17), .mv (.t 1), none, [1]⟩,
      ⟨(some 18), .mv (.t 5), none, [5]⟩,
      ⟨(some 19), .call 32 [(.t 16), (.t 17), (.t 18)], none, [16, 17, 18]⟩,
      ⟨(some 7), .mv (.t 19), none, [19]⟩])
   (RC.block 0 (RC.seq (RC.reg [⟨(some 21), .mv (.t 7), none, [7]⟩,
       ⟨(some 22), .bin (.int .neq) (.t 21) (.c (.int .i64 0)), none, [21]⟩,
       ⟨(some 20), .mv (.t 22), none, [22]⟩])
    (RC.cond (.t 20)
     (RC.seq (RC.reg [⟨(some 23), .mv (.t 7), none, [7]⟩,
         ⟨(some 4), .mv (.t 23), none, [23]⟩])
      (RC.ret))
     (RC.seq (RC.reg [⟨(some 25), .mv (.t 0), none, [0]⟩,
         ⟨(some 26), .nilck (.t 25), none, [25]⟩,
         ⟨(some 27), .fa 0 (.t 26), none, [26]⟩,
         ⟨(some 28), .ld1 (.t 27), none, [27]⟩,
         ⟨(some 29), .mv (.t 6), none, [6]⟩,
         ⟨(some 30), .bin (.int .gtr) (.t 28) (.t 29), none, [28, 29]⟩,
         ⟨(some 24), .mv (.t 30), none, [30]⟩])
      (RC.cond (.t 24)
       (RC.seq (RC.reg [⟨(some 4), .mv (.c (.int .i64 201)), none, []⟩])
        (RC.ret))
       (RC.skip)))))))
  (RC.seq (RC.draw [⟨(some 31), .mv (.t 0), none, [0]⟩,
     ⟨(some 32), .mv (.t 0), none, [0]⟩,
     ⟨(some 33), .nilck (.t 32), none, [32]⟩,
     ⟨(some 34), .fa 1 (.t 33), none, [33]⟩,
     ⟨(some 35), .ld1 (.t 34), none, [34]⟩,
     ⟨(some 36), .mv (.t 0), none, [0]⟩,
     ⟨(some 37), .nilck (.t 36), none, [36]⟩,
     ⟨(some 38), .fa 1 (.t 37), none, [37]⟩,
     ⟨(some 39), .ld1 (.t 38), none, [38]⟩,
     ⟨(some 40), .len .slice (.t 39), none, [39]⟩,
     ⟨(some 41), .bin (.int .sub) (.t 40) (.c (.int .i64 1)), none, [40]⟩,
     ⟨(some 42), .sl 4 (.t 35) none (some (.t 41)) none, none, [35, 41]⟩,
     ⟨(some 43), .nilck (.t 31), none, [31]⟩,
     ⟨(some 44), .fa 1 (.t 43), none, [43]⟩,
     ⟨none, .st 1 (.t 44) (.t 42), none, [44, 42]⟩] [(4, [14]), (8, [14])])
  (RC.seq (RC.reg [⟨(some 45), .mv (.t 0), none, [0]⟩,
     ⟨(some 46), .nilck (.t 45), none, [45]⟩,
     ⟨(some 47), .fa 0 (.t 46), none, [46]⟩,
     ⟨(some 48), .ld1 (.t 47), none, [47]⟩,
     ⟨(some 49), .mv (.t 5), none, [5]⟩,
     ⟨(some 50), .bin (.int .add) (.t 48) (.t 49), none, [48, 49]⟩,
     ⟨(some 51), .nilck (.t 45), none, [45]⟩,
     ⟨(some 52), .fa 0 (.t 51), none, [51]⟩,
     ⟨none, .st 1 (.t 52) (.t 50), none, [52, 50]⟩])
  (RC.seq (RC.reg [⟨(some 4), .mv (.c (.int .i64 0)), none, []⟩])
  (RC.ret))))))
theorem c38_ok : resK Try.prog Try.f38.ntmps (Try.f38.body.getD .skip) = c38 := by kernel_rfl
theorem c38_res : resR Try.prog Try.f38.ntmps Try.f38.results.toList = [.t 4] := by kernel_rfl
theorem c38_ctr {args : List V} {h : Heap} {K : V → Heap → Prop} (hl : Nat.ble args.length 53 = true) (H : wpC Try.prog c38 (RF.ofL args) h fun e r h' => e.ends ∧ ∃ vs, evR r h' [.t 4] = some vs ∧ K (oneOf vs) h') : Ctr Try.prog 38 args h K :=
  ctr_of_wp follows namesOk Try.func38 (c := Try.f38.body.getD .skip) (by kernel_rfl) (by kernel_rfl) hl c38_ok c38_res H

/-- gimlet/stack.Push -/
def c9 : RC :=
  RC.seq (RC.reg [⟨(some 2), .box (.t 0), none, [0]⟩,
     ⟨(some 3), .box (.t 1), none, [1]⟩,
     ⟨(some 4), .new [(.int .i64 0), .nilslice], none, []⟩,
     ⟨(some 5), .mv (.c (.int .i64 0)), none, []⟩])
  (RC.seq (RC.reg [⟨(some 6), .ldn 2 (.t 2), none, [2]⟩,
     ⟨(some 7), .ld1 (.t 3), none, [3]⟩,
     ⟨(some 8), .bin (.int .geq) (.t 7) (.c (.int .i64 0)), none, [7]⟩,
     ⟨(some 9), .fn 29 [(.t 3)], none, [3]⟩,
     ⟨(some 10), .call 28 [(.t 6), (.t 8), (.t 9)], none, [6, 8, 9]⟩,
     ⟨(some 11), .ext (.t 10) 0, none, [10]⟩,
     ⟨(some 12), .ext (.t 10) 1, none, [10]⟩,
     ⟨none, .st 2 (.t 4) (.t 11), none, [4, 11]⟩,
     ⟨(some 5), .mv (.t 12), none, [12]⟩])
  (RC.ret))
theorem c9_ok : resK Try.prog Try.f9.ntmps (Try.f9.body.getD .skip) = c9 := by kernel_rfl
theorem c9_res : resR Try.prog Try.f9.ntmps Try.f9.results.toList = [.cn 4 2, .t 5] := by kernel_rfl
theorem c9_ctr {args : List V} {h : Heap} {K : V → Heap → Prop} (hl : Nat.ble args.length 13 = true) (H : wpC Try.prog c9 (RF.ofL args) h fun e r h' => e.ends ∧ ∃ vs, evR r h' [.cn 4 2, .t 5] = some vs ∧ K (oneOf vs) h') : Ctr Try.prog 9 args h K :=
  ctr_of_wp follows namesOk Try.func9 (c := Try.f9.body.getD .skip) (by kernel_rfl) (by kernel_rfl) hl c9_ok c9_res H

/-- gimlet/stack.Pop -/
def c10 : RC :=
  RC.seq (RC.reg [⟨(some 2), .box (.t 0), none, [0]⟩,
     ⟨(some 3), .box (.t 1), none, [1]⟩,
     ⟨(some 4), .new [(.int .i64 0), .nilslice], none, []⟩,
     ⟨(some 5), .mv (.c (.int .i64 0)), none, []⟩])
  (RC.seq (RC.reg [⟨(some 6), .ldn 2 (.t 2), none, [2]⟩,
     ⟨(some 7), .ld1 (.t 3), none, [3]⟩,
     ⟨(some 8), .bin (.int .geq) (.t 7) (.c (.int .i64 0)), none, [7]⟩,
     ⟨(some 9), .fn 31 [(.t 3)], none, [3]⟩,
     ⟨(some 10), .call 28 [(.t 6), (.t 8), (.t 9)], none, [6, 8, 9]⟩,
     ⟨(some 11), .ext (.t 10) 0, none, [10]⟩,
     ⟨(some 12), .ext (.t 10) 1, none, [10]⟩,
     ⟨none, .st 2 (.t 4) (.t 11), none, [4, 11]⟩,
     ⟨(some 5), .mv (.t 12), none, [12]⟩])
  (RC.ret))
theorem c10_ok : resK Try.prog Try.f10.ntmps (Try.f10.body.getD .skip) = c10 := by kernel_rfl
theorem c10_res : resR Try.prog Try.f10.ntmps Try.f10.results.toList = [.cn 4 2, .t 5] := by kernel_rfl
theorem c10_ctr {args : List V} {h : Heap} {K : V → Heap → Prop} (hl : Nat.ble args.length 13 = true) (H : wpC Try.prog c10 (RF.ofL args) h fun e r h' => e.ends ∧ ∃ vs, evR r h' [.cn 4 2, .t 5] = some vs ∧ K (oneOf vs) h') : Ctr Try.prog 10 args h K :=
  ctr_of_wp follows namesOk Try.func10 (c := Try.f10.body.getD .skip) (by kernel_rfl) (by kernel_rfl) hl c10_ok c10_res H

/-- gimlet/stack.Dead -/
def c16 : RC :=
  RC.seq (RC.reg [⟨(some 1), .box (.t 0), none, [0]⟩,
     ⟨(some 2), .new [(.int .i64 0), .nilslice], none, []⟩,
     ⟨(some 3), .mv (.c (.int .i64 0)), none, []⟩])
  (RC.seq (RC.reg [⟨(some 4), .ldn 2 (.t 1), none, [1]⟩,
     ⟨(some 5), .call 28 [(.t 4), (.c (.bool true)), (.c (.func 35 []))], none, [4]⟩,
     ⟨(some 6), .ext (.t 5) 0, none, [5]⟩,
     ⟨(some 7), .ext (.t 5) 1, none, [5]⟩,
     ⟨none, .st 2 (.t 2) (.t 6), none, [2, 6]⟩,
     ⟨(some 3), .mv (.t 7), none, [7]⟩])
  (RC.ret))
theorem c16_ok : resK Try.prog Try.f16.ntmps (Try.f16.body.getD .skip) = c16 := by kernel_rfl
theorem c16_res : resR Try.prog Try.f16.ntmps Try.f16.results.toList = [.cn 2 2, .t 3] := by kernel_rfl
theorem c16_ctr {args : List V} {h : Heap} {K : V → Heap → Prop} (hl : Nat.ble args.length 8 = true) (H : wpC Try.prog c16 (RF.ofL args) h fun e r h' => e.ends ∧ ∃ vs, evR r h' [.cn 2 2, .t 3] = some vs ∧ K (oneOf vs) h') : Ctr Try.prog 16 args h K :=
  ctr_of_wp follows namesOk Try.func16 (c := Try.f16.body.getD .skip) (by kernel_rfl) (by kernel_rfl) hl c16_ok c16_res H

/-- gimlet/stack.Enter -/
def c18 : RC :=
  RC.seq (RC.reg [⟨(some 3), .box (.t 0), none, [0]⟩,
     ⟨(some 4), .box (.t 1), none, [1]⟩,
     ⟨(some 5), .box (.t 2), none, [2]⟩,
     ⟨(some 6), .new [(.int .i64 0), .nilslice], none, []⟩,
     ⟨(some 7), .mv (.c (.int .i64 0)), none, []⟩])
  (RC.seq (RC.draw [⟨(some 8), .ldn 2 (.t 3), none, [3]⟩,
     ⟨(some 9), .ld1 (.t 4), none, [4]⟩,
     ⟨(some 19), .fn 36 [(.t 4), (.t 5)], none, [4, 5]⟩,
     ⟨(some 10), .call 27 [(.t 9)], none, [9]⟩,
     ⟨(some 11), .mv (.t 10), none, [10]⟩,
     ⟨(some 12), .ld1 (.t 5), (some (11, true)), [5, 11]⟩,
     ⟨(some 13), .bin (.int .geq) (.t 12) (.c (.int .i64 0)), (some (11, true)), [12, 11]⟩,
     ⟨(some 14), .pick (.t 11) (.t 13) (.c (.bool false)), none, [11, 13]⟩,
     ⟨(some 15), .mv (.t 14), none, [14]⟩,
     ⟨(some 16), .ld1 (.t 5), (some (15, true)), [5, 15]⟩,
     ⟨(some 17), .bin (.int .leq) (.t 16) (.c (.int .i64 1)), (some (15, true)), [16, 15]⟩,
     ⟨(some 18), .pick (.t 15) (.t 17) (.c (.bool false)), none, [15, 17]⟩,
     ⟨(some 20), .call 28 [(.t 8), (.t 18), (.t 19)], none, [8, 18, 19]⟩,
     ⟨(some 21), .ext (.t 20) 0, none, [20]⟩,
     ⟨(some 22), .ext (.t 20) 1, none, [20]⟩,
     ⟨none, .st 2 (.t 6) (.t 21), none, [6, 21]⟩,
     ⟨(some 7), .mv (.t 22), none, [22]⟩] [(0, [3, 12]), (1, [3]), (5, [12]), (9, [12])])
  (RC.ret))
theorem c18_ok : resK Try.prog Try.f18.ntmps (Try.f18.body.getD .skip) = c18 := by kernel_rfl
theorem c18_res : resR Try.prog Try.f18.ntmps Try.f18.results.toList = [.cn 6 2, .t 7] := by kernel_rfl
theorem c18_ctr {args : List V} {h : Heap} {K : V → Heap → Prop} (hl : Nat.ble args.length 23 = true) (H : wpC Try.prog c18 (RF.ofL args) h fun e r h' => e.ends ∧ ∃ vs, evR r h' [.cn 6 2, .t 7] = some vs ∧ K (oneOf vs) h') : Ctr Try.prog 18 args h K :=
  ctr_of_wp follows namesOk Try.func18 (c := Try.f18.body.getD .skip) (by kernel_rfl) (by kernel_rfl) hl c18_ok c18_res H

/-- gimlet/stack.Leave -/
def c20 : RC :=
  RC.seq (RC.reg [⟨(some 1), .box (.t 0), none, [0]⟩,
     ⟨(some 2), .new [(.int .i64 0), .nilslice], none, []⟩,
     ⟨(some 3), .mv (.c (.int .i64 0)), none, []⟩])
  (RC.seq (RC.reg [⟨(some 4), .ldn 2 (.t 1), none, [1]⟩,
     ⟨(some 5), .call 28 [(.t 4), (.c (.bool true)), (.c (.func 38 []))], none, [4]⟩,
     ⟨(some 6), .ext (.t 5) 0, none, [5]⟩,
     ⟨(some 7), .ext (.t 5) 1, none, [5]⟩,
     ⟨none, .st 2 (.t 2) (.t 6), none, [2, 6]⟩,
     ⟨(some 3), .mv (.t 7), none, [7]⟩])
  (RC.ret))
theorem c20_ok : resK Try.prog Try.f20.ntmps (Try.f20.body.getD .skip) = c20 := by kernel_rfl
theorem c20_res : resR Try.prog Try.f20.ntmps Try.f20.results.toList = [.cn 2 2, .t 3] := by kernel_rfl
theorem c20_ctr {args : List V} {h : Heap} {K : V → Heap → Prop} (hl : Nat.ble args.length 8 = true) (H : wpC Try.prog c20 (RF.ofL args) h fun e r h' => e.ends ∧ ∃ vs, evR r h' [.cn 2 2, .t 3] = some vs ∧ K (oneOf vs) h') : Ctr Try.prog 20 args h K :=
  ctr_of_wp follows namesOk Try.func20 (c := Try.f20.body.getD .skip) (by kernel_rfl) (by kernel_rfl) hl c20_ok c20_res H

/-- gimlet/stack.Label -/
def c22 : RC :=
  RC.seq (RC.reg [⟨(some 2), .box (.t 0), none, [0]⟩,
     ⟨(some 4), .mv (.c (.int .i64 0)), none, []⟩,
     ⟨(some 5), .mv (.c (.int .i64 0)), none, []⟩])
  (RC.seq (RC.block 0 (RC.seq (RC.reg [⟨(some 8), .ldn 2 (.t 2), none, [2]⟩,
       ⟨(some 9), .call 8 [(.t 8)], none, [8]⟩,
       ⟨(some 10), .bin (.int .neq) (.t 9) (.c (.int .i64 0)), none, [9]⟩,
       ⟨(some 7), .mv (.t 10), none, [10]⟩])
    (RC.cond (.t 7)
     (RC.seq (RC.reg [⟨(some 4), .mv (.c (.int .i64 0)), none, []⟩,
         ⟨(some 5), .mv (.c (.int .i64 2)), none, []⟩])
      (RC.ret))
     (RC.seq (RC.reg [⟨(some 12), .mv (.t 1), none, [1]⟩,
         ⟨(some 13), .bin (.int .lss) (.t 12) (.c (.int .i64 0)), none, [12]⟩,
         ⟨(some 14), .mv (.t 13), none, [13]⟩,
         ⟨(some 15), .mv (.t 1), (some (14, false)), [1, 14]⟩,
         ⟨(some 16), .fa 1 (.t 2), (some (14, false)), [2, 14]⟩,
         ⟨(some 17), .ld1 (.t 16), (some (14, false)), [16, 14]⟩,
         ⟨(some 18), .len .slice (.t 17), (some (14, false)), [17, 14]⟩,
         ⟨(some 19), .bin (.int .geq) (.t 15) (.t 18), (some (14, false)), [15, 18, 14]⟩,
         ⟨(some 20), .pick (.t 14) (.c (.bool true)) (.t 19), none, [14, 19]⟩,
         ⟨(some 11), .mv (.t 20), none, [20]⟩])
      (RC.cond (.t 11)
       (RC.seq (RC.reg [⟨(some 4), .mv (.c (.int .i64 0)), none, []⟩,
           ⟨(some 5), .mv (.c (.int .i64 6)), none, []⟩])
        (RC.ret))
       (RC.skip))))))
  (RC.seq (RC.reg [⟨(some 21), .fa 1 (.t 2), none, [2]⟩,
     ⟨(some 22), .ld1 (.t 21), none, [21]⟩,
     ⟨(some 23), .fa 1 (.t 2), none, [2]⟩,
     ⟨(some 24), .ld1 (.t 23), none, [23]⟩,
     ⟨(some 25), .len .slice (.t 24), none, [24]⟩,
     ⟨(some 26), .bin (.int .sub) (.t 25) (.c (.int .i64 1)), none, [25]⟩,
     ⟨(some 27), .mv (.t 1), none, [1]⟩,
     ⟨(some 28), .bin (.int .sub) (.t 26) (.t 27), none, [26, 27]⟩,
     ⟨(some 29), .ia 4 (.t 22) (.t 28), none, [22, 28]⟩,
     ⟨(some 30), .ldn 4 (.t 29), none, [29]⟩,
     ⟨(some 6), .new [(.int .i64 0), (.int .i64 0), (.int .i64 0), (.bool false)], none, []⟩,
     ⟨none, .st 4 (.t 6) (.t 30), none, [6, 30]⟩])
  (RC.seq (RC.seq (RC.reg [⟨(some 31), .fa 0 (.t 6), none, [6]⟩,
      ⟨(some 32), .ld1 (.t 31), none, [31]⟩,
      ⟨(some 33), .bin (.int .eql) (.t 32) (.c (.int .i64 3)), none, [32]⟩])
   (RC.cond (.t 33)
    (RC.seq (RC.reg [⟨(some 4), .mv (.c (.int .i64 0)), none, []⟩,
        ⟨(some 5), .mv (.c (.int .i64 0)), none, []⟩])
     (RC.ret))
    (RC.skip)))
  (RC.seq (RC.reg [⟨(some 34), .fa 2 (.t 6), none, [6]⟩,
     ⟨(some 35), .ld1 (.t 34), none, [34]⟩,
     ⟨(some 4), .mv (.t 35), none, [35]⟩,
     ⟨(some 5), .mv (.c (.int .i64 0)), none, []⟩])
  (RC.ret)))))
theorem c22_ok : resK Try.prog Try.f22.ntmps (Try.f22.body.getD .skip) = c22 := by kernel_rfl
theorem c22_res : resR Try.prog Try.f22.ntmps Try.f22.results.toList = [.t 4, .t 5] := by kernel_rfl
theorem c22_ctr {args : List V} {h : Heap} {K : V → Heap → Prop} (hl : Nat.ble args.length 36 = true) (H : wpC Try.prog c22 (RF.ofL args) h fun e r h' => e.ends ∧ ∃ vs, evR r h' [.t 4, .t 5] = some vs ∧ K (oneOf vs) h') : Ctr Try.prog 22 args h K :=
  ctr_of_wp follows namesOk Try.func22 (c := Try.f22.body.getD .skip) (by kernel_rfl) (by kernel_rfl) hl c22_ok c22_res H

/-- gimlet/stack.New -/
def c24 : RC :=
  RC.seq (RC.reg [⟨(some 2), .new [(.int .i64 0), .nilslice], none, []⟩,
     ⟨(some 3), .mv (.c (.int .i64 0)), none, []⟩])
  (RC.seq (RC.seq (RC.reg [⟨(some 4), .mv (.t 0), none, [0]⟩,
      ⟨(some 5), .bin (.int .lss) (.t 4) (.c (.int .i64 0)), none, [4]⟩,
      ⟨(some 6), .mv (.t 5), none, [5]⟩,
      ⟨(some 7), .mv (.t 0), (some (6, false)), [0, 6]⟩,
      ⟨(some 8), .bin (.int .gtr) (.t 7) (.c (.int .i64 1)), (some (6, false)), [7, 6]⟩,
      ⟨(some 9), .pick (.t 6) (.c (.bool true)) (.t 8), none, [6, 8]⟩])
   (RC.cond (.t 9)
    (RC.seq (RC.reg [⟨(some 10), .build [(.int .i64 0), .nilslice] [], none, []⟩,
        ⟨none, .st 2 (.t 2) (.t 10), none, [2, 10]⟩,
        ⟨(some 3), .mv (.c (.int .i64 2)), none, []⟩])
     (RC.ret))
    (RC.skip)))
  (RC.seq (RC.reg [⟨(some 11), .mv (.t 0), none, [0]⟩,
     ⟨(some 12), .build [(.int .i64 0), (.int .i64 0), (.int .i64 0), (.bool false)] [(2, 1, (.t 11))], none, [11]⟩,
     ⟨(some 13), .bsl 1 4 [(.int .i64 0), (.int .i64 0), (.int .i64 0), (.bool false)] [(0, 4, (.t 12))], none, [12]⟩,
     ⟨(some 14), .build [(.int .i64 0), .nilslice] [(1, 1, (.t 13))], none, [13]⟩,
     ⟨none, .st 2 (.t 2) (.t 14), none, [2, 14]⟩,
     ⟨(some 3), .mv (.c (.int .i64 0)), none, []⟩])
  (RC.ret)))
theorem c24_ok : resK Try.prog Try.f24.ntmps (Try.f24.body.getD .skip) = c24 := by kernel_rfl
theorem c24_res : resR Try.prog Try.f24.ntmps Try.f24.results.toList = [.cn 2 2, .t 3] := by kernel_rfl
theorem c24_ctr {args : List V} {h : Heap} {K : V → Heap → Prop} (hl : Nat.ble args.length 15 = true) (H : wpC Try.prog c24 (RF.ofL args) h fun e r h' => e.ends ∧ ∃ vs, evR r h' [.cn 2 2, .t 3] = some vs ∧ K (oneOf vs) h') : Ctr Try.prog 24 args h K :=
  ctr_of_wp follows namesOk Try.func24 (c := Try.f24.body.getD .skip) (by kernel_rfl) (by kernel_rfl) hl c24_ok c24_res H

/-- gimlet/gimletlaw10.same -/
def c11l1 : RC :=
  RC.seq (RC.seq (RC.reg [⟨(some 20), .mv (.t 5), none, [5]⟩,
      ⟨(some 21), .fa 1 (.t 2), none, [2]⟩,
      ⟨(some 22), .ld1 (.t 21), none, [21]⟩,
      ⟨(some 23), .len .slice (.t 22), none, [22]⟩,
      ⟨(some 24), .bin (.int .lss) (.t 20) (.t 23), none, [20, 23]⟩])
   (RC.cond (.t 24)
    (RC.skip)
    (RC.exit 0)))
  (RC.seq (RC.block 1 (RC.seq (RC.draw [⟨(some 27), .fa 1 (.t 2), none, [2]⟩,
       ⟨(some 28), .ld1 (.t 27), none, [27]⟩,
       ⟨(some 29), .mv (.t 5), none, [5]⟩,
       ⟨(some 30), .ia 4 (.t 28) (.t 29), none, [28, 29]⟩,
       ⟨(some 31), .ldn 4 (.t 30), none, [30]⟩,
       ⟨(some 32), .fa 1 (.t 3), none, [3]⟩,
       ⟨(some 33), .ld1 (.t 32), none, [32]⟩,
       ⟨(some 34), .mv (.t 5), none, [5]⟩,
       ⟨(some 35), .ia 4 (.t 33) (.t 34), none, [33, 34]⟩,
       ⟨(some 36), .ldn 4 (.t 35), none, [35]⟩,
       ⟨(some 37), .bin (.other .neq 42) (.t 31) (.t 36), none, [31, 36]⟩] [])
    (RC.cond (.t 37)
     (RC.seq (RC.reg [⟨(some 4), .mv (.c (.bool false)), none, []⟩])
      (RC.ret))
     (RC.skip))))
  (RC.reg [⟨(some 25), .mv (.t 5), none, [5]⟩,
    ⟨(some 26), .bin (.int .add) (.t 25) (.c (.int .i64 1)), none, [25]⟩,
    ⟨(some 5), .mv (.t 26), none, [26]⟩]))
def c11 : RC :=
  RC.seq (RC.reg [⟨(some 2), .box (.t 0), none, [0]⟩,
     ⟨(some 3), .box (.t 1), none, [1]⟩,
     ⟨(some 4), .mv (.c (.bool false)), none, []⟩])
  (RC.seq (RC.seq (RC.reg [⟨(some 6), .fa 0 (.t 2), none, [2]⟩,
      ⟨(some 7), .ld1 (.t 6), none, [6]⟩,
      ⟨(some 8), .fa 0 (.t 3), none, [3]⟩,
      ⟨(some 9), .ld1 (.t 8), none, [8]⟩,
      ⟨(some 10), .bin (.int .neq) (.t 7) (.t 9), none, [7, 9]⟩,
      ⟨(some 11), .mv (.t 10), none, [10]⟩,
      ⟨(some 12), .fa 1 (.t 2), (some (11, false)), [2, 11]⟩,
      ⟨(some 13), .ld1 (.t 12), (some (11, false)), [12, 11]⟩,
      ⟨(some 14), .len .slice (.t 13), (some (11, false)), [13, 11]⟩,
      ⟨(some 15), .fa 1 (.t 3), (some (11, false)), [3, 11]⟩,
      ⟨(some 16), .ld1 (.t 15), (some (11, false)), [15, 11]⟩,
      ⟨(some 17), .len .slice (.t 16), (some (11, false)), [16, 11]⟩,
      ⟨(some 18), .bin (.int .neq) (.t 14) (.t 17), (some (11, false)), [14, 17, 11]⟩,
      ⟨(some 19), .pick (.t 11) (.c (.bool true)) (.t 18), none, [11, 18]⟩])
   (RC.cond (.t 19)
    (RC.seq (RC.reg [⟨(some 4), .mv (.c (.bool false)), none, []⟩])
     (RC.ret))
    (RC.skip)))
  (RC.seq (RC.seq (RC.reg [⟨(some 5), .mv (.c (.int .i64 0)), none, []⟩])
   (RC.block 0 (RC.loop c11l1)))
  (RC.seq (RC.reg [⟨(some 4), .mv (.c (.bool true)), none, []⟩])
  (RC.ret))))
theorem c11_ok : resK Try.prog Try.f11.ntmps (Try.f11.body.getD .skip) = c11 := by kernel_rfl
theorem c11_res : resR Try.prog Try.f11.ntmps Try.f11.results.toList = [.t 4] := by kernel_rfl
theorem c11_ctr {args : List V} {h : Heap} {K : V → Heap → Prop} (hl : Nat.ble args.length 38 = true) (H : wpC Try.prog c11 (RF.ofL args) h fun e r h' => e.ends ∧ ∃ vs, evR r h' [.t 4] = some vs ∧ K (oneOf vs) h') : Ctr Try.prog 11 args h K :=
  ctr_of_wp follows namesOk Try.func11 (c := Try.f11.body.getD .skip) (by kernel_rfl) (by kernel_rfl) hl c11_ok c11_res H

/-- gimlet/gimletlaw10.own -/
def c12 : RC :=
  RC.seq (RC.reg [⟨(some 1), .box (.t 0), none, [0]⟩,
     ⟨(some 2), .new [(.int .i64 0), .nilslice], none, []⟩])
  (RC.seq (RC.draw [⟨(some 3), .fa 0 (.t 1), none, [1]⟩,
     ⟨(some 4), .ld1 (.t 3), none, [3]⟩,
     ⟨(some 5), .bsl 0 4 [(.int .i64 0), (.int .i64 0), (.int .i64 0), (.bool false)] [], none, []⟩,
     ⟨(some 6), .fa 1 (.t 1), none, [1]⟩,
     ⟨(some 7), .ld1 (.t 6), none, [6]⟩,
     ⟨(some 8), .app 4 (.t 5) (.t 7), none, [5, 7]⟩,
     ⟨(some 9), .build [(.int .i64 0), .nilslice] [(0, 1, (.t 4)), (1, 1, (.t 8))], none, [4, 8]⟩,
     ⟨none, .st 2 (.t 2) (.t 9), none, [2, 9]⟩] [(1, [5, 7]), (4, [5])])
  (RC.ret))
theorem c12_ok : resK Try.prog Try.f12.ntmps (Try.f12.body.getD .skip) = c12 := by kernel_rfl
theorem c12_res : resR Try.prog Try.f12.ntmps Try.f12.results.toList = [.cn 2 2] := by kernel_rfl
theorem c12_ctr {args : List V} {h : Heap} {K : V → Heap → Prop} (hl : Nat.ble args.length 10 = true) (H : wpC Try.prog c12 (RF.ofL args) h fun e r h' => e.ends ∧ ∃ vs, evR r h' [.cn 2 2] = some vs ∧ K (oneOf vs) h') : Ctr Try.prog 12 args h K :=
  ctr_of_wp follows namesOk Try.func12 (c := Try.f12.body.getD .skip) (by kernel_rfl) (by kernel_rfl) hl c12_ok c12_res H

/-- gimlet/gimletlaw10.told -/
def c14l1 : RC :=
  RC.seq (RC.seq (RC.reg [⟨(some 23), .mv (.t 13), none, [13]⟩,
      ⟨(some 24), .fa 1 (.t 6), none, [6]⟩,
      ⟨(some 25), .ld1 (.t 24), none, [24]⟩,
      ⟨(some 26), .len .slice (.t 25), none, [25]⟩,
      ⟨(some 27), .bin (.int .lss) (.t 23) (.t 26), none, [23, 26]⟩])
   (RC.cond (.t 27)
    (RC.skip)
    (RC.exit 0)))
  (RC.seq (RC.block 1 (RC.reg [⟨(some 30), .fa 1 (.t 6), none, [6]⟩,
      ⟨(some 31), .ld1 (.t 30), none, [30]⟩,
      ⟨(some 32), .mv (.t 13), none, [13]⟩,
      ⟨(some 33), .build [(.int .i64 0), (.int .i64 0), (.int .i64 0), (.bool false)] [(0, 1, (.c (.int .i64 99)))], none, []⟩,
      ⟨(some 34), .ia 4 (.t 31) (.t 32), none, [31, 32]⟩,
      ⟨none, .st 4 (.t 34) (.t 33), none, [34, 33]⟩]))
  (RC.reg [⟨(some 28), .mv (.t 13), none, [13]⟩,
    ⟨(some 29), .bin (.int .add) (.t 28) (.c (.int .i64 1)), none, [28]⟩,
    ⟨(some 13), .mv (.t 29), none, [29]⟩]))
def c14 : RC :=
  RC.seq (RC.reg [⟨(some 6), .box (.t 0), none, [0]⟩,
     ⟨(some 8), .box (.t 2), none, [2]⟩,
     ⟨(some 10), .box (.t 4), none, [4]⟩,
     ⟨(some 11), .box (.t 5), none, [5]⟩,
     ⟨(some 12), .mv (.c (.bool false)), none, []⟩])
  (RC.seq (RC.seq (RC.reg [⟨(some 14), .mv (.t 1), none, [1]⟩,
      ⟨(some 15), .mv (.t 3), none, [3]⟩,
      ⟨(some 16), .bin (.int .neq) (.t 14) (.t 15), none, [14, 15]⟩,
      ⟨(some 17), .mv (.t 16), none, [16]⟩,
      ⟨(some 18), .ldn 2 (.t 6), (some (17, false)), [6, 17]⟩,
      ⟨(some 19), .ldn 2 (.t 8), (some (17, false)), [8, 17]⟩,
      ⟨(some 20), .call 11 [(.t 18), (.t 19)], (some (17, false)), [18, 19, 17]⟩,
      ⟨(some 21), .un .not (.t 20), (some (17, false)), [20, 17]⟩,
      ⟨(some 22), .pick (.t 17) (.c (.bool true)) (.t 21), none, [17, 21]⟩])
   (RC.cond (.t 22)
    (RC.seq (RC.reg [⟨(some 12), .mv (.c (.bool false)), none, []⟩])
     (RC.ret))
    (RC.skip)))
  (RC.seq (RC.seq (RC.reg [⟨(some 13), .mv (.c (.int .i64 0)), none, []⟩])
   (RC.block 0 (RC.loop c14l1)))
  (RC.seq (RC.reg [⟨(some 35), .ldn 2 (.t 10), none, [10]⟩,
     ⟨(some 36), .ldn 2 (.t 11), none, [11]⟩,
     ⟨(some 37), .call 11 [(.t 35), (.t 36)], none, [35, 36]⟩,
     ⟨(some 12), .mv (.t 37), none, [37]⟩])
  (RC.ret))))
theorem c14_ok : resK Try.prog Try.f14.ntmps (Try.f14.body.getD .skip) = c14 := by kernel_rfl
theorem c14_res : resR Try.prog Try.f14.ntmps Try.f14.results.toList = [.t 12] := by kernel_rfl
theorem c14_ctr {args : List V} {h : Heap} {K : V → Heap → Prop} (hl : Nat.ble args.length 38 = true) (H : wpC Try.prog c14 (RF.ofL args) h fun e r h' => e.ends ∧ ∃ vs, evR r h' [.t 12] = some vs ∧ K (oneOf vs) h') : Ctr Try.prog 14 args h K :=
  ctr_of_wp follows namesOk Try.func14 (c := Try.f14.body.getD .skip) (by kernel_rfl) (by kernel_rfl) hl c14_ok c14_res H

/-- gimlet/gimletref10.Push -/
def c13 : RC :=
  RC.seq (RC.reg [⟨(some 2), .box (.t 0), none, [0]⟩,
     ⟨(some 4), .new [(.int .i64 0), .nilslice], none, []⟩,
     ⟨(some 5), .mv (.c (.int .i64 0)), none, []⟩])
  (RC.seq (RC.seq (RC.reg [⟨(some 6), .ldn 2 (.t 2), none, [2]⟩,
      ⟨(some 7), .call 26 [(.t 6)], none, [6]⟩,
      ⟨(some 8), .bin (.int .neq) (.t 7) (.c (.int .i64 0)), none, [7]⟩,
      ⟨(some 9), .mv (.t 8), none, [8]⟩,
      ⟨(some 10), .mv (.t 1), (some (9, false)), [1, 9]⟩,
      ⟨(some 11), .bin (.int .lss) (.t 10) (.c (.int .i64 0)), (some (9, false)), [10, 9]⟩,
      ⟨(some 12), .pick (.t 9) (.c (.bool true)) (.t 11), none, [9, 11]⟩])
   (RC.cond (.t 12)
    (RC.seq (RC.reg [⟨(some 13), .build [(.int .i64 0), .nilslice] [], none, []⟩,
        ⟨none, .st 2 (.t 4) (.t 13), none, [4, 13]⟩,
        ⟨(some 5), .mv (.c (.int .i64 2)), none, []⟩])
     (RC.ret))
    (RC.skip)))
  (RC.seq (RC.seq (RC.reg [⟨(some 14), .mv (.t 1), none, [1]⟩,
      ⟨(some 15), .fa 0 (.t 2), none, [2]⟩,
      ⟨(some 16), .ld1 (.t 15), none, [15]⟩,
      ⟨(some 17), .bin (.int .sub) (.c (.int .i64 1073741824)) (.t 16), none, [16]⟩,
      ⟨(some 18), .bin (.int .gtr) (.t 14) (.t 17), none, [14, 17]⟩])
   (RC.cond (.t 18)
    (RC.seq (RC.reg [⟨(some 19), .build [(.int .i64 0), .nilslice] [], none, []⟩,
        ⟨none, .st 2 (.t 4) (.t 19), none, [4, 19]⟩,
        ⟨(some 5), .mv (.c (.int .i64 8)), none, []⟩])
     (RC.ret))
    (RC.skip)))
  (RC.seq (RC.reg [⟨(some 20), .ldn 2 (.t 2), none, [2]⟩,
     ⟨(some 21), .fa 0 (.t 2), none, [2]⟩,
     ⟨(some 22), .ld1 (.t 21), none, [21]⟩,
     ⟨(some 23), .mv (.t 1), none, [1]⟩,
     ⟨(some 24), .bin (.int .add) (.t 22) (.t 23), none, [22, 23]⟩,
     ⟨(some 25), .fa 1 (.t 2), none, [2]⟩,
     ⟨(some 26), .ld1 (.t 25), none, [25]⟩,
     ⟨(some 27), .call 33 [(.t 20), (.t 24), (.t 26)], none, [20, 24, 26]⟩,
     ⟨none, .st 2 (.t 4) (.t 27), none, [4, 27]⟩,
     ⟨(some 5), .mv (.c (.int .i64 0)), none, []⟩])
  (RC.ret))))
theorem c13_ok : resK Try.prog Try.f13.ntmps (Try.f13.body.getD .skip) = c13 := by kernel_rfl
theorem c13_res : resR Try.prog Try.f13.ntmps Try.f13.results.toList = [.cn 4 2, .t 5] := by kernel_rfl
theorem c13_ctr {args : List V} {h : Heap} {K : V → Heap → Prop} (hl : Nat.ble args.length 28 = true) (H : wpC Try.prog c13 (RF.ofL args) h fun e r h' => e.ends ∧ ∃ vs, evR r h' [.cn 4 2, .t 5] = some vs ∧ K (oneOf vs) h') : Ctr Try.prog 13 args h K :=
  ctr_of_wp follows namesOk Try.func13 (c := Try.f13.body.getD .skip) (by kernel_rfl) (by kernel_rfl) hl c13_ok c13_res H

/-- gimlet/gimletref10.Pop -/
def c15 : RC :=
  RC.seq (RC.reg [⟨(some 2), .box (.t 0), none, [0]⟩,
     ⟨(some 4), .new [(.int .i64 0), .nilslice], none, []⟩,
     ⟨(some 5), .mv (.c (.int .i64 0)), none, []⟩])
  (RC.seq (RC.seq (RC.reg [⟨(some 8), .ldn 2 (.t 2), none, [2]⟩,
      ⟨(some 9), .call 26 [(.t 8)], none, [8]⟩,
      ⟨(some 10), .bin (.int .neq) (.t 9) (.c (.int .i64 0)), none, [9]⟩,
      ⟨(some 11), .mv (.t 10), none, [10]⟩,
      ⟨(some 12), .mv (.t 1), (some (11, false)), [1, 11]⟩,
      ⟨(some 13), .bin (.int .lss) (.t 12) (.c (.int .i64 0)), (some (11, false)), [12, 11]⟩,
      ⟨(some 14), .pick (.t 11) (.c (.bool true)) (.t 13), none, [11, 13]⟩])
   (RC.cond (.t 14)
    (RC.seq (RC.reg [⟨(some 15), .build [(.int .i64 0), .nilslice] [], none, []⟩,
        ⟨none, .st 2 (.t 4) (.t 15), none, [4, 15]⟩,
        ⟨(some 5), .mv (.c (.int .i64 2)), none, []⟩])
     (RC.ret))
    (RC.skip)))
  (RC.seq (RC.reg [⟨(some 16), .ldn 2 (.t 2), none, [2]⟩,
     ⟨(some 17), .call 34 [(.t 16)], none, [16]⟩,
     ⟨(some 6), .new [(.int .i64 0), (.int .i64 0), (.int .i64 0), (.bool false)], none, []⟩,
     ⟨none, .st 4 (.t 6) (.t 17), none, [6, 17]⟩])
  (RC.seq (RC.reg [⟨(some 18), .fa 0 (.t 2), none, [2]⟩,
     ⟨(some 19), .ld1 (.t 18), none, [18]⟩,
     ⟨(some 20), .fa 1 (.t 6), none, [6]⟩,
     ⟨(some 21), .ld1 (.t 20), none, [20]⟩,
     ⟨(some 22), .bin (.int .sub) (.t 19) (.t 21), none, [19, 21]⟩,
     ⟨(some 7), .mv (.t 22), none, [22]⟩])
  (RC.seq (RC.seq (RC.reg [⟨(some 23), .mv (.t 1), none, [1]⟩,
      ⟨(some 24), .mv (.t 7), none, [7]⟩,
      ⟨(some 25), .bin (.int .gtr) (.t 23) (.t 24), none, [23, 24]⟩,
      ⟨(some 26), .mv (.t 25), none, [25]⟩,
      ⟨(some 27), .fa 3 (.t 6), (some (26, true)), [6, 26]⟩,
      ⟨(some 28), .ld1 (.t 27), (some (26, true)), [27, 26]⟩,
      ⟨(some 29), .un .not (.t 28), (some (26, true)), [28, 26]⟩,
      ⟨(some 30), .pick (.t 26) (.t 29) (.c (.bool false)), none, [26, 29]⟩])
   (RC.cond (.t 30)
    (RC.seq (RC.reg [⟨(some 31), .build [(.int .i64 0), .nilslice] [], none, []⟩,
        ⟨none, .st 2 (.t 4) (.t 31), none, [4, 31]⟩,
        ⟨(some 5), .mv (.c (.int .i64 200)), none, []⟩])
     (RC.ret))
    (RC.skip)))
  (RC.seq (RC.reg [⟨(some 32), .ldn 2 (.t 2), none, [2]⟩,
     ⟨(some 33), .fa 0 (.t 2), none, [2]⟩,
     ⟨(some 34), .ld1 (.t 33), none, [33]⟩,
     ⟨(some 35), .mv (.t 1), none, [1]⟩,
     ⟨(some 36), .mv (.t 7), none, [7]⟩,
     ⟨(some 37), .mn [(.t 35), (.t 36)], none, [35, 36]⟩,
     ⟨(some 38), .bin (.int .sub) (.t 34) (.t 37), none, [34, 37]⟩,
     ⟨(some 39), .fa 1 (.t 2), none, [2]⟩,
     ⟨(some 40), .ld1 (.t 39), none, [39]⟩,
     ⟨(some 41), .call 33 [(.t 32), (.t 38), (.t 40)], none, [32, 38, 40]⟩,
     ⟨none, .st 2 (.t 4) (.t 41), none, [4, 41]⟩,
     ⟨(some 5), .mv (.c (.int .i64 0)), none, []⟩])
  (RC.ret))))))
theorem c15_ok : resK Try.prog Try.f15.ntmps (Try.f15.body.getD .skip) = c15 := by kernel_rfl
theorem c15_res : resR Try.prog Try.f15.ntmps Try.f15.results.toList = [.cn 4 2, .t 5] := by kernel_rfl
theorem c15_ctr {args : List V} {h : Heap} {K : V → Heap → Prop} (hl : Nat.ble args.length 42 = true) (H : wpC Try.prog c15 (RF.ofL args) h fun e r h' => e.ends ∧ ∃ vs, evR r h' [.cn 4 2, .t 5] = some vs ∧ K (oneOf vs) h') : Ctr Try.prog 15 args h K :=
  ctr_of_wp follows namesOk Try.func15 (c := Try.f15.body.getD .skip) (by kernel_rfl) (by kernel_rfl) hl c15_ok c15_res H

/-- gimlet/gimletref10.Dead -/
def c17 : RC :=
  RC.seq (RC.reg [⟨(some 1), .box (.t 0), none, [0]⟩,
     ⟨(some 2), .new [(.int .i64 0), .nilslice], none, []⟩,
     ⟨(some 3), .mv (.c (.int .i64 0)), none, []⟩])
  (RC.seq (RC.seq (RC.reg [⟨(some 6), .ldn 2 (.t 1), none, [1]⟩,
      ⟨(some 7), .call 26 [(.t 6)], none, [6]⟩,
      ⟨(some 8), .bin (.int .neq) (.t 7) (.c (.int .i64 0)), none, [7]⟩])
   (RC.cond (.t 8)
    (RC.seq (RC.reg [⟨(some 9), .build [(.int .i64 0), .nilslice] [], none, []⟩,
        ⟨none, .st 2 (.t 2) (.t 9), none, [2, 9]⟩,
        ⟨(some 3), .mv (.c (.int .i64 2)), none, []⟩])
     (RC.ret))
    (RC.skip)))
  (RC.seq (RC.reg [⟨(some 10), .ldn 2 (.t 1), none, [1]⟩,
     ⟨(some 11), .call 34 [(.t 10)], none, [10]⟩,
     ⟨(some 4), .new [(.int .i64 0), (.int .i64 0), (.int .i64 0), (.bool false)], none, []⟩,
     ⟨none, .st 4 (.t 4) (.t 11), none, [4, 11]⟩])
  (RC.seq (RC.reg [⟨(some 12), .ldn 2 (.t 1), none, [1]⟩,
     ⟨(some 13), .fa 1 (.t 4), none, [4]⟩,
     ⟨(some 14), .ld1 (.t 13), none, [13]⟩,
     ⟨(some 15), .fa 1 (.t 1), none, [1]⟩,
     ⟨(some 16), .ld1 (.t 15), none, [15]⟩,
     ⟨(some 17), .call 33 [(.t 12), (.t 14), (.t 16)], none, [12, 14, 16]⟩,
     ⟨(some 5), .new [(.int .i64 0), .nilslice], none, []⟩,
     ⟨none, .st 2 (.t 5) (.t 17), none, [5, 17]⟩])
  (RC.seq (RC.reg [⟨(some 18), .fa 3 (.t 4), none, [4]⟩,
     ⟨none, .st 1 (.t 18) (.c (.bool true)), none, [18]⟩])
  (RC.seq (RC.reg [⟨(some 19), .fa 1 (.t 5), none, [5]⟩,
     ⟨(some 20), .ld1 (.t 19), none, [19]⟩,
     ⟨(some 21), .fa 1 (.t 5), none, [5]⟩,
     ⟨(some 22), .ld1 (.t 21), none, [21]⟩,
     ⟨(some 23), .len .slice (.t 22), none, [22]⟩,
     ⟨(some 24), .bin (.int .sub) (.t 23) (.c (.int .i64 1)), none, [23]⟩,
     ⟨(some 25), .ldn 4 (.t 4), none, [4]⟩,
     ⟨(some 26), .ia 4 (.t 20) (.t 24), none, [20, 24]⟩,
     ⟨none, .st 4 (.t 26) (.t 25), none, [26, 25]⟩])
  (RC.seq (RC.reg [⟨(some 27), .ldn 2 (.t 5), none, [5]⟩,
     ⟨none, .st 2 (.t 2) (.t 27), none, [2, 27]⟩,
     ⟨(some 3), .mv (.c (.int .i64 0)), none, []⟩])
  (RC.ret)))))))
theorem c17_ok : resK Try.prog Try.f17.ntmps (Try.f17.body.getD .skip) = c17 := by kernel_rfl
theorem c17_res : resR Try.prog Try.f17.ntmps Try.f17.results.toList = [.cn 2 2, .t 3] := by kernel_rfl
theorem c17_ctr {args : List V} {h : Heap} {K : V → Heap → Prop} (hl : Nat.ble args.length 28 = true) (H : wpC Try.prog c17 (RF.ofL args) h fun e r h' => e.ends ∧ ∃ vs, evR r h' [.cn 2 2, .t 3] = some vs ∧ K (oneOf vs) h') : Ctr Try.prog 17 args h K :=
  ctr_of_wp follows namesOk Try.func17 (c := Try.f17.body.getD .skip) (by kernel_rfl) (by kernel_rfl) hl c17_ok c17_res H

/-- gimlet/gimletref10.Enter -/
def c19 : RC :=
  RC.seq (RC.reg [⟨(some 3), .box (.t 0), none, [0]⟩,
     ⟨(some 6), .new [(.int .i64 0), .nilslice], none, []⟩,
     ⟨(some 7), .mv (.c (.int .i64 0)), none, []⟩])
  (RC.seq (RC.seq (RC.reg [⟨(some 9), .ldn 2 (.t 3), none, [3]⟩,
      ⟨(some 10), .call 26 [(.t 9)], none, [9]⟩,
      ⟨(some 11), .bin (.int .neq) (.t 10) (.c (.int .i64 0)), none, [10]⟩,
      ⟨(some 12), .mv (.t 11), none, [11]⟩,
      ⟨(some 13), .mv (.t 1), (some (12, false)), [1, 12]⟩,
      ⟨(some 14), .call 37 [(.t 13)], (some (12, false)), [13, 12]⟩,
      ⟨(some 15), .un .not (.t 14), (some (12, false)), [14, 12]⟩,
      ⟨(some 16), .pick (.t 12) (.c (.bool true)) (.t 15), none, [12, 15]⟩,
      ⟨(some 17), .mv (.t 16), none, [16]⟩,
      ⟨(some 18), .mv (.t 2), (some (17, false)), [2, 17]⟩,
      ⟨(some 19), .bin (.int .lss) (.t 18) (.c (.int .i64 0)), (some (17, false)), [18, 17]⟩,
      ⟨(some 20), .pick (.t 17) (.c (.bool true)) (.t 19), none, [17, 19]⟩,
      ⟨(some 21), .mv (.t 20), none, [20]⟩,
      ⟨(some 22), .mv (.t 2), (some (21, false)), [2, 21]⟩,
      ⟨(some 23), .bin (.int .gtr) (.t 22) (.c (.int .i64 1)), (some (21, false)), [22, 21]⟩,
      ⟨(some 24), .pick (.t 21) (.c (.bool true)) (.t 23), none, [21, 23]⟩])
   (RC.cond (.t 24)
    (RC.seq (RC.reg [⟨(some 25), .build [(.int .i64 0), .nilslice] [], none, []⟩,
        ⟨none, .st 2 (.t 6) (.t 25), none, [6, 25]⟩,
        ⟨(some 7), .mv (.c (.int .i64 2)), none, []⟩])
     (RC.ret))
    (RC.skip)))
  (RC.seq (RC.seq (RC.reg [⟨(some 26), .fa 1 (.t 3), none, [3]⟩,
      ⟨(some 27), .ld1 (.t 26), none, [26]⟩,
      ⟨(some 28), .len .slice (.t 27), none, [27]⟩,
      ⟨(some 29), .bin (.int .geq) (.t 28) (.c (.int .i64 1000)), none, [28]⟩])
   (RC.cond (.t 29)
    (RC.seq (RC.reg [⟨(some 30), .build [(.int .i64 0), .nilslice] [], none, []⟩,
        ⟨none, .st 2 (.t 6) (.t 30), none, [6, 30]⟩,
        ⟨(some 7), .mv (.c (.int .i64 8)), none, []⟩])
     (RC.ret))
    (RC.skip)))
  (RC.seq (RC.reg [⟨(some 31), .ldn 2 (.t 3), none, [3]⟩,
     ⟨(some 32), .fa 0 (.t 3), none, [3]⟩,
     ⟨(some 33), .ld1 (.t 32), none, [32]⟩,
     ⟨(some 34), .fa 1 (.t 3), none, [3]⟩,
     ⟨(some 35), .ld1 (.t 34), none, [34]⟩,
     ⟨(some 36), .call 33 [(.t 31), (.t 33), (.t 35)], none, [31, 33, 35]⟩,
     ⟨(some 8), .new [(.int .i64 0), .nilslice], none, []⟩,
     ⟨none, .st 2 (.t 8) (.t 36), none, [8, 36]⟩])
  (RC.seq (RC.reg [⟨(some 37), .fa 1 (.t 8), none, [8]⟩,
     ⟨(some 38), .ld1 (.t 37), none, [37]⟩,
     ⟨(some 39), .mv (.t 1), none, [1]⟩,
     ⟨(some 40), .fa 0 (.t 3), none, [3]⟩,
     ⟨(some 41), .ld1 (.t 40), none, [40]⟩,
     ⟨(some 42), .mv (.t 2), none, [2]⟩,
     ⟨(some 43), .build [(.int .i64 0), (.int .i64 0), (.int .i64 0), (.bool false)] [(0, 1, (.t 39)), (1, 1, (.t 41)), (2, 1, (.t 42))], none, [39, 41, 42]⟩,
     ⟨(some 44), .bsl 1 4 [(.int .i64 0), (.int .i64 0), (.int .i64 0), (.bool false)] [(0, 4, (.t 43))], none, [43]⟩,
     ⟨(some 45), .app 4 (.t 38) (.t 44), none, [38, 44]⟩,
     ⟨(some 46), .fa 1 (.t 8), none, [8]⟩,
     ⟨none, .st 1 (.t 46) (.t 45), none, [46, 45]⟩])
  (RC.seq (RC.reg [⟨(some 47), .ldn 2 (.t 8), none, [8]⟩,
     ⟨none, .st 2 (.t 6) (.t 47), none, [6, 47]⟩,
     ⟨(some 7), .mv (.c (.int .i64 0)), none, []⟩])
  (RC.ret))))))
theorem c19_ok : resK Try.prog Try.f19.ntmps (Try.f19.body.getD .skip) = c19 := by kernel_rfl
theorem c19_res : resR Try.prog Try.f19.ntmps Try.f19.results.toList = [.cn 6 2, .t 7] := by kernel_rfl
theorem c19_ctr {args : List V} {h : Heap} {K : V → Heap → Prop} (hl : Nat.ble args.length 48 = true) (H : wpC Try.prog c19 (RF.ofL args) h fun e r h' => e.ends ∧ ∃ vs, evR r h' [.cn 6 2, .t 7] = some vs ∧ K (oneOf vs) h') : Ctr Try.prog 19 args h K :=
  ctr_of_wp follows namesOk Try.func19 (c := Try.f19.body.getD .skip) (by kernel_rfl) (by kernel_rfl) hl c19_ok c19_res H

/-- gimlet/gimletref10.Leave -/
def c21 : RC :=
  RC.seq (RC.reg [⟨(some 1), .box (.t 0), none, [0]⟩,
     ⟨(some 2), .new [(.int .i64 0), .nilslice], none, []⟩,
     ⟨(some 3), .mv (.c (.int .i64 0)), none, []⟩])
  (RC.seq (RC.seq (RC.reg [⟨(some 7), .ldn 2 (.t 1), none, [1]⟩,
      ⟨(some 8), .call 26 [(.t 7)], none, [7]⟩,
      ⟨(some 9), .bin (.int .neq) (.t 8) (.c (.int .i64 0)), none, [8]⟩])
   (RC.cond (.t 9)
    (RC.seq (RC.reg [⟨(some 10), .build [(.int .i64 0), .nilslice] [], none, []⟩,
        ⟨none, .st 2 (.t 2) (.t 10), none, [2, 10]⟩,
        ⟨(some 3), .mv (.c (.int .i64 2)), none, []⟩])
     (RC.ret))
    (RC.skip)))
  (RC.seq (RC.reg [⟨(some 11), .ldn 2 (.t 1), none, [1]⟩,
     ⟨(some 12), .call 34 [(.t 11)], none, [11]⟩,
     ⟨(some 4), .new [(.int .i64 0), (.int .i64 0), (.int .i64 0), (.bool false)], none, []⟩,
     ⟨none, .st 4 (.t 4) (.t 12), none, [4, 12]⟩])
  (RC.seq (RC.reg [⟨(some 14), .ldn 2 (.t 1), none, [1]⟩,
     ⟨(some 15), .fa 2 (.t 4), none, [4]⟩,
     ⟨(some 16), .ld1 (.t 15), none, [15]⟩,
     ⟨(some 17), .call 15 [(.t 14), (.t 16)], none, [14, 16]⟩,
     ⟨(some 13), .mv (.t 17), none, [17]⟩,
     ⟨(some 18), .ext (.t 13) 0, none, [13]⟩,
     ⟨(some 19), .ext (.t 13) 1, none, [13]⟩,
     ⟨(some 5), .new [(.int .i64 0), .nilslice], none, []⟩,
     ⟨none, .st 2 (.t 5) (.t 18), none, [5, 18]⟩,
     ⟨(some 6), .mv (.t 19), none, [19]⟩])
  (RC.seq (RC.seq (RC.reg [⟨(some 20), .mv (.t 6), none, [6]⟩,
      ⟨(some 21), .bin (.int .neq) (.t 20) (.c (.int .i64 0)), none, [20]⟩])
   (RC.cond (.t 21)
    (RC.seq (RC.reg [⟨(some 22), .build [(.int .i64 0), .nilslice] [], none, []⟩,
        ⟨(some 23), .mv (.t 6), none, [6]⟩,
        ⟨none, .st 2 (.t 2) (.t 22), none, [2, 22]⟩,
        ⟨(some 3), .mv (.t 23), none, [23]⟩])
     (RC.ret))
    (RC.skip)))
  (RC.seq (RC.seq (RC.reg [⟨(some 24), .fa 0 (.t 5), none, [5]⟩,
      ⟨(some 25), .ld1 (.t 24), none, [24]⟩,
      ⟨(some 26), .fa 1 (.t 4), none, [4]⟩,
      ⟨(some 27), .ld1 (.t 26), none, [26]⟩,
      ⟨(some 28), .bin (.int .gtr) (.t 25) (.t 27), none, [25, 27]⟩])
   (RC.cond (.t 28)
    (RC.seq (RC.reg [⟨(some 29), .build [(.int .i64 0), .nilslice] [], none, []⟩,
        ⟨none, .st 2 (.t 2) (.t 29), none, [2, 29]⟩,
        ⟨(some 3), .mv (.c (.int .i64 201)), none, []⟩])
     (RC.ret))
    (RC.skip)))
  (RC.seq (RC.draw [⟨(some 30), .ldn 2 (.t 5), none, [5]⟩,
     ⟨(some 31), .fa 1 (.t 4), none, [4]⟩,
     ⟨(some 32), .ld1 (.t 31), none, [31]⟩,
     ⟨(some 33), .fa 2 (.t 4), none, [4]⟩,
     ⟨(some 34), .ld1 (.t 33), none, [33]⟩,
     ⟨(some 35), .bin (.int .add) (.t 32) (.t 34), none, [32, 34]⟩,
     ⟨(some 36), .fa 1 (.t 5), none, [5]⟩,
     ⟨(some 37), .ld1 (.t 36), none, [36]⟩,
     ⟨(some 38), .fa 1 (.t 5), none, [5]⟩,
     ⟨(some 39), .ld1 (.t 38), none, [38]⟩,
     ⟨(some 40), .len .slice (.t 39), none, [39]⟩,
     ⟨(some 41), .bin (.int .sub) (.t 40) (.c (.int .i64 1)), none, [40]⟩,
     ⟨(some 42), .sl 4 (.t 37) none (some (.t 41)) none, none, [37, 41]⟩,
     ⟨(some 43), .call 33 [(.t 30), (.t 35), (.t 42)], none, [30, 35, 42]⟩,
     ⟨none, .st 2 (.t 2) (.t 43), none, [2, 43]⟩,
     ⟨(some 3), .mv (.c (.int .i64 0)), none, []⟩] [(0, [13]), (2, [13]), (4, [13]), (7, [13]), (9, [13])])
  (RC.ret)))))))
theorem c21_ok : resK Try.prog Try.f21.ntmps (Try.f21.body.getD .skip) = c21 := by kernel_rfl
theorem c21_res : resR Try.prog Try.f21.ntmps Try.f21.results.toList = [.cn 2 2, .t 3] := by kernel_rfl
theorem c21_ctr {args : List V} {h : Heap} {K : V → Heap → Prop} (hl : Nat.ble args.length 44 = true) (H : wpC Try.prog c21 (RF.ofL args) h fun e r h' => e.ends ∧ ∃ vs, evR r h' [.cn 2 2, .t 3] = some vs ∧ K (oneOf vs) h') : Ctr Try.prog 21 args h K :=
  ctr_of_wp follows namesOk Try.func21 (c := Try.f21.body.getD .skip) (by kernel_rfl) (by kernel_rfl) hl c21_ok c21_res H

/-- gimlet/gimletref10.Label -/
def c23 : RC :=
  RC.seq (RC.reg [⟨(some 2), .box (.t 0), none, [0]⟩,
     ⟨(some 4), .mv (.c (.int .i64 0)), none, []⟩,
     ⟨(some 5), .mv (.c (.int .i64 0)), none, []⟩])
  (RC.seq (RC.seq (RC.reg [⟨(some 7), .ldn 2 (.t 2), none, [2]⟩,
      ⟨(some 8), .call 26 [(.t 7)], none, [7]⟩,
      ⟨(some 9), .bin (.int .neq) (.t 8) (.c (.int .i64 0)), none, [8]⟩])
   (RC.cond (.t 9)
    (RC.seq (RC.reg [⟨(some 4), .mv (.c (.int .i64 0)), none, []⟩,
        ⟨(some 5), .mv (.c (.int .i64 2)), none, []⟩])
     (RC.ret))
    (RC.skip)))
  (RC.seq (RC.seq (RC.reg [⟨(some 10), .mv (.t 1), none, [1]⟩,
      ⟨(some 11), .bin (.int .lss) (.t 10) (.c (.int .i64 0)), none, [10]⟩,
      ⟨(some 12), .mv (.t 11), none, [11]⟩,
      ⟨(some 13), .mv (.t 1), (some (12, false)), [1, 12]⟩,
      ⟨(some 14), .fa 1 (.t 2), (some (12, false)), [2, 12]⟩,
      ⟨(some 15), .ld1 (.t 14), (some (12, false)), [14, 12]⟩,
      ⟨(some 16), .len .slice (.t 15), (some (12, false)), [15, 12]⟩,
      ⟨(some 17), .bin (.int .geq) (.t 13) (.t 16), (some (12, false)), [13, 16, 12]⟩,
      ⟨(some 18), .pick (.t 12) (.c (.bool true)) (.t 17), none, [12, 17]⟩])
   (RC.cond (.t 18)
    (RC.seq (RC.reg [⟨(some 4), .mv (.c (.int .i64 0)), none, []⟩,
        ⟨(some 5), .mv (.c (.int .i64 6)), none, []⟩])
     (RC.ret))
    (RC.skip)))
  (RC.seq (RC.reg [⟨(some 19), .fa 1 (.t 2), none, [2]⟩,
     ⟨(some 20), .ld1 (.t 19), none, [19]⟩,
     ⟨(some 21), .fa 1 (.t 2), none, [2]⟩,
     ⟨(some 22), .ld1 (.t 21), none, [21]⟩,
     ⟨(some 23), .len .slice (.t 22), none, [22]⟩,
     ⟨(some 24), .bin (.int .sub) (.t 23) (.c (.int .i64 1)), none, [23]⟩,
     ⟨(some 25), .mv (.t 1), none, [1]⟩,
     ⟨(some 26), .bin (.int .sub) (.t 24) (.t 25), none, [24, 25]⟩,
     ⟨(some 27), .ia 4 (.t 20) (.t 26), none, [20, 26]⟩,
     ⟨(some 28), .ldn 4 (.t 27), none, [27]⟩,
     ⟨(some 6), .new [(.int .i64 0), (.int .i64 0), (.int .i64 0), (.bool false)], none, []⟩,
     ⟨none, .st 4 (.t 6) (.t 28), none, [6, 28]⟩])
  (RC.seq (RC.seq (RC.reg [⟨(some 29), .fa 0 (.t 6), none, [6]⟩,
      ⟨(some 30), .ld1 (.t 29), none, [29]⟩,
      ⟨(some 31), .bin (.int .eql) (.t 30) (.c (.int .i64 3)), none, [30]⟩])
   (RC.cond (.t 31)
    (RC.seq (RC.reg [⟨(some 4), .mv (.c (.int .i64 0)), none, []⟩,
        ⟨(some 5), .mv (.c (.int .i64 0)), none, []⟩])
     (RC.ret))
    (RC.skip)))
  (RC.seq (RC.reg [⟨(some 32), .fa 2 (.t 6), none, [6]⟩,
     ⟨(some 33), .ld1 (.t 32), none, [32]⟩,
     ⟨(some 4), .mv (.t 33), none, [33]⟩,
     ⟨(some 5), .mv (.c (.int .i64 0)), none, []⟩])
  (RC.ret))))))
theorem c23_ok : resK Try.prog Try.f23.ntmps (Try.f23.body.getD .skip) = c23 := by kernel_rfl
theorem c23_res : resR Try.prog Try.f23.ntmps Try.f23.results.toList = [.t 4, .t 5] := by kernel_rfl
theorem c23_ctr {args : List V} {h : Heap} {K : V → Heap → Prop} (hl : Nat.ble args.length 34 = true) (H : wpC Try.prog c23 (RF.ofL args) h fun e r h' => e.ends ∧ ∃ vs, evR r h' [.t 4, .t 5] = some vs ∧ K (oneOf vs) h') : Ctr Try.prog 23 args h K :=
  ctr_of_wp follows namesOk Try.func23 (c := Try.f23.body.getD .skip) (by kernel_rfl) (by kernel_rfl) hl c23_ok c23_res H

/-- gimlet/gimletref10.New -/
def c25 : RC :=
  RC.seq (RC.reg [⟨(some 2), .new [(.int .i64 0), .nilslice], none, []⟩,
     ⟨(some 3), .mv (.c (.int .i64 0)), none, []⟩])
  (RC.seq (RC.seq (RC.reg [⟨(some 4), .mv (.t 0), none, [0]⟩,
      ⟨(some 5), .bin (.int .lss) (.t 4) (.c (.int .i64 0)), none, [4]⟩,
      ⟨(some 6), .mv (.t 5), none, [5]⟩,
      ⟨(some 7), .mv (.t 0), (some (6, false)), [0, 6]⟩,
      ⟨(some 8), .bin (.int .gtr) (.t 7) (.c (.int .i64 1)), (some (6, false)), [7, 6]⟩,
      ⟨(some 9), .pick (.t 6) (.c (.bool true)) (.t 8), none, [6, 8]⟩])
   (RC.cond (.t 9)
    (RC.seq (RC.reg [⟨(some 10), .build [(.int .i64 0), .nilslice] [], none, []⟩,
        ⟨none, .st 2 (.t 2) (.t 10), none, [2, 10]⟩,
        ⟨(some 3), .mv (.c (.int .i64 2)), none, []⟩])
     (RC.ret))
    (RC.skip)))
  (RC.seq (RC.reg [⟨(some 11), .mv (.t 0), none, [0]⟩,
     ⟨(some 12), .build [(.int .i64 0), (.int .i64 0), (.int .i64 0), (.bool false)] [(2, 1, (.t 11))], none, [11]⟩,
     ⟨(some 13), .bsl 1 4 [(.int .i64 0), (.int .i64 0), (.int .i64 0), (.bool false)] [(0, 4, (.t 12))], none, [12]⟩,
     ⟨(some 14), .build [(.int .i64 0), .nilslice] [(1, 1, (.t 13))], none, [13]⟩,
     ⟨none, .st 2 (.t 2) (.t 14), none, [2, 14]⟩,
     ⟨(some 3), .mv (.c (.int .i64 0)), none, []⟩])
  (RC.ret)))
theorem c25_ok : resK Try.prog Try.f25.ntmps (Try.f25.body.getD .skip) = c25 := by kernel_rfl
theorem c25_res : resR Try.prog Try.f25.ntmps Try.f25.results.toList = [.cn 2 2, .t 3] := by kernel_rfl
theorem c25_ctr {args : List V} {h : Heap} {K : V → Heap → Prop} (hl : Nat.ble args.length 15 = true) (H : wpC Try.prog c25 (RF.ofL args) h fun e r h' => e.ends ∧ ∃ vs, evR r h' [.cn 2 2, .t 3] = some vs ∧ K (oneOf vs) h') : Ctr Try.prog 25 args h K :=
  ctr_of_wp follows namesOk Try.func25 (c := Try.f25.body.getD .skip) (by kernel_rfl) (by kernel_rfl) hl c25_ok c25_res H

/-- gimlet/gimletref10.Check -/
def c26l1 : RC :=
  RC.seq (RC.seq (RC.reg [⟨(some 42), .mv (.t 4), none, [4]⟩,
      ⟨(some 43), .fa 1 (.t 1), none, [1]⟩,
      ⟨(some 44), .ld1 (.t 43), none, [43]⟩,
      ⟨(some 45), .len .slice (.t 44), none, [44]⟩,
      ⟨(some 46), .bin (.int .lss) (.t 42) (.t 45), none, [42, 45]⟩])
   (RC.cond (.t 46)
    (RC.skip)
    (RC.exit 0)))
  (RC.seq (RC.block 1 (RC.seq (RC.reg [⟨(some 49), .fa 1 (.t 1), none, [1]⟩,
       ⟨(some 50), .ld1 (.t 49), none, [49]⟩,
       ⟨(some 51), .mv (.t 4), none, [4]⟩,
       ⟨(some 52), .ia 4 (.t 50) (.t 51), none, [50, 51]⟩,
       ⟨(some 53), .ldn 4 (.t 52), none, [52]⟩,
       ⟨(some 5), .new [(.int .i64 0), (.int .i64 0), (.int .i64 0), (.bool false)], none, []⟩,
       ⟨none, .st 4 (.t 5) (.t 53), none, [5, 53]⟩])
    (RC.seq (RC.seq (RC.reg [⟨(some 54), .mv (.t 4), none, [4]⟩,
        ⟨(some 55), .bin (.int .gtr) (.t 54) (.c (.int .i64 0)), none, [54]⟩,
        ⟨(some 56), .mv (.t 55), none, [55]⟩,
        ⟨(some 57), .fa 0 (.t 5), (some (56, true)), [5, 56]⟩,
        ⟨(some 58), .ld1 (.t 57), (some (56, true)), [57, 56]⟩,
        ⟨(some 59), .call 37 [(.t 58)], (some (56, true)), [58, 56]⟩,
        ⟨(some 60), .un .not (.t 59), (some (56, true)), [59, 56]⟩,
        ⟨(some 61), .pick (.t 56) (.t 60) (.c (.bool false)), none, [56, 60]⟩,
        ⟨(some 62), .mv (.t 61), none, [61]⟩,
        ⟨(some 63), .fa 1 (.t 5), (some (62, false)), [5, 62]⟩,
        ⟨(some 64), .ld1 (.t 63), (some (62, false)), [63, 62]⟩,
        ⟨(some 65), .mv (.t 3), (some (62, false)), [3, 62]⟩,
        ⟨(some 66), .bin (.int .lss) (.t 64) (.t 65), (some (62, false)), [64, 65, 62]⟩,
        ⟨(some 67), .pick (.t 62) (.c (.bool true)) (.t 66), none, [62, 66]⟩,
        ⟨(some 68), .mv (.t 67), none, [67]⟩,
        ⟨(some 69), .fa 1 (.t 5), (some (68, false)), [5, 68]⟩,
        ⟨(some 70), .ld1 (.t 69), (some (68, false)), [69, 68]⟩,
        ⟨(some 71), .fa 0 (.t 1), (some (68, false)), [1, 68]⟩,
        ⟨(some 72), .ld1 (.t 71), (some (68, false)), [71, 68]⟩,
        ⟨(some 73), .bin (.int .gtr) (.t 70) (.t 72), (some (68, false)), [70, 72, 68]⟩,
        ⟨(some 74), .pick (.t 68) (.c (.bool true)) (.t 73), none, [68, 73]⟩,
        ⟨(some 75), .mv (.t 74), none, [74]⟩,
        ⟨(some 76), .fa 2 (.t 5), (some (75, false)), [5, 75]⟩,
        ⟨(some 77), .ld1 (.t 76), (some (75, false)), [76, 75]⟩,
        ⟨(some 78), .bin (.int .lss) (.t 77) (.c (.int .i64 0)), (some (75, false)), [77, 75]⟩,
        ⟨(some 79), .pick (.t 75) (.c (.bool true)) (.t 78), none, [75, 78]⟩,
        ⟨(some 80), .mv (.t 79), none, [79]⟩,
        ⟨(some 81), .fa 2 (.t 5), (some (80, false)), [5, 80]⟩,
        ⟨(some 82), .ld1 (.t 81), (some (80, false)), [81, 80]⟩,
        ⟨(some 83), .bin (.int .gtr) (.t 82) (.c (.int .i64 1)), (some (80, false)), [82, 80]⟩,
        ⟨(some 84), .pick (.t 80) (.c (.bool true)) (.t 83), none, [80, 83]⟩])
     (RC.cond (.t 84)
      (RC.seq (RC.reg [⟨(some 2), .mv (.c (.int .i64 2)), none, []⟩])
       (RC.ret))
      (RC.skip)))
    (RC.reg [⟨(some 85), .fa 1 (.t 5), none, [5]⟩,
      ⟨(some 86), .ld1 (.t 85), none, [85]⟩,
      ⟨(some 3), .mv (.t 86), none, [86]⟩]))))
  (RC.reg [⟨(some 47), .mv (.t 4), none, [4]⟩,
    ⟨(some 48), .bin (.int .add) (.t 47) (.c (.int .i64 1)), none, [47]⟩,
    ⟨(some 4), .mv (.t 48), none, [48]⟩]))
def c26 : RC :=
  RC.seq (RC.reg [⟨(some 1), .box (.t 0), none, [0]⟩,
     ⟨(some 2), .mv (.c (.int .i64 0)), none, []⟩])
  (RC.seq (RC.seq (RC.reg [⟨(some 6), .fa 0 (.t 1), none, [1]⟩,
      ⟨(some 7), .ld1 (.t 6), none, [6]⟩,
      ⟨(some 8), .bin (.int .lss) (.t 7) (.c (.int .i64 0)), none, [7]⟩,
      ⟨(some 9), .mv (.t 8), none, [8]⟩,
      ⟨(some 10), .fa 0 (.t 1), (some (9, false)), [1, 9]⟩,
      ⟨(some 11), .ld1 (.t 10), (some (9, false)), [10, 9]⟩,
      ⟨(some 12), .bin (.int .gtr) (.t 11) (.c (.int .i64 1073741824)), (some (9, false)), [11, 9]⟩,
      ⟨(some 13), .pick (.t 9) (.c (.bool true)) (.t 12), none, [9, 12]⟩,
      ⟨(some 14), .mv (.t 13), none, [13]⟩,
      ⟨(some 15), .fa 1 (.t 1), (some (14, false)), [1, 14]⟩,
      ⟨(some 16), .ld1 (.t 15), (some (14, false)), [15, 14]⟩,
      ⟨(some 17), .len .slice (.t 16), (some (14, false)), [16, 14]⟩,
      ⟨(some 18), .bin (.int .eql) (.t 17) (.c (.int .i64 0)), (some (14, false)), [17, 14]⟩,
      ⟨(some 19), .pick (.t 14) (.c (.bool true)) (.t 18), none, [14, 18]⟩,
      ⟨(some 20), .mv (.t 19), none, [19]⟩,
      ⟨(some 21), .fa 1 (.t 1), (some (20, false)), [1, 20]⟩,
      ⟨(some 22), .ld1 (.t 21), (some (20, false)), [21, 20]⟩,
      ⟨(some 23), .len .slice (.t 22), (some (20, false)), [22, 20]⟩,
      ⟨(some 24), .bin (.int .gtr) (.t 23) (.c (.int .i64 1000)), (some (20, false)), [23, 20]⟩,
      ⟨(some 25), .pick (.t 20) (.c (.bool true)) (.t 24), none, [20, 24]⟩,
      ⟨(some 26), .mv (.t 25), none, [25]⟩,
      ⟨(some 27), .fa 1 (.t 1), (some (26, false)), [1, 26]⟩,
      ⟨(some 28), .ld1 (.t 27), (some (26, false)), [27, 26]⟩,
      ⟨(some 29), .ia 4 (.t 28) (.c (.int .i64 0)), (some (26, false)), [28, 26]⟩,
      ⟨(some 30), .fa 0 (.t 29), (some (26, false)), [29, 26]⟩,
      ⟨(some 31), .ld1 (.t 30), (some (26, false)), [30, 26]⟩,
      ⟨(some 32), .bin (.int .neq) (.t 31) (.c (.int .i64 0)), (some (26, false)), [31, 26]⟩,
      ⟨(some 33), .pick (.t 26) (.c (.bool true)) (.t 32), none, [26, 32]⟩,
      ⟨(some 34), .mv (.t 33), none, [33]⟩,
      ⟨(some 35), .fa 1 (.t 1), (some (34, false)), [1, 34]⟩,
      ⟨(some 36), .ld1 (.t 35), (some (34, false)), [35, 34]⟩,
      ⟨(some 37), .ia 4 (.t 36) (.c (.int .i64 0)), (some (34, false)), [36, 34]⟩,
      ⟨(some 38), .fa 1 (.t 37), (some (34, false)), [37, 34]⟩,
      ⟨(some 39), .ld1 (.t 38), (some (34, false)), [38, 34]⟩,
      ⟨(some 40), .bin (.int .neq) (.t 39) (.c (.int .i64 0)), (some (34, false)), [39, 34]⟩,
      ⟨(some 41), .pick (.t 34) (.c (.bool true)) (.t 40), none, [34, 40]⟩])
   (RC.cond (.t 41)
    (RC.seq (RC.reg [⟨(some 2), .mv (.c (.int .i64 2)), none, []⟩])
     (RC.ret))
    (RC.skip)))
  (RC.seq (RC.reg [⟨(some 3), .mv (.c (.int .i64 0)), none, []⟩])
  (RC.seq (RC.seq (RC.reg [⟨(some 4), .mv (.c (.int .i64 0)), none, []⟩])
   (RC.block 0 (RC.loop c26l1)))
  (RC.seq (RC.reg [⟨(some 2), .mv (.c (.int .i64 0)), none, []⟩])
  (RC.ret)))))
theorem c26_ok : resK Try.prog Try.f26.ntmps (Try.f26.body.getD .skip) = c26 := by kernel_rfl
theorem c26_res : resR Try.prog Try.f26.ntmps Try.f26.results.toList = [.t 2] := by kernel_rfl
theorem c26_ctr {args : List V} {h : Heap} {K : V → Heap → Prop} (hl : Nat.ble args.length 87 = true) (H : wpC Try.prog c26 (RF.ofL args) h fun e r h' => e.ends ∧ ∃ vs, evR r h' [.t 2] = some vs ∧ K (oneOf vs) h') : Ctr Try.prog 26 args h K :=
  ctr_of_wp follows namesOk Try.func26 (c := Try.f26.body.getD .skip) (by kernel_rfl) (by kernel_rfl) hl c26_ok c26_res H

/-- gimlet/gimletref10.with -/
def c33 : RC :=
  RC.seq (RC.reg [⟨(some 3), .box (.t 0), none, [0]⟩,
     ⟨(some 6), .new [(.int .i64 0), .nilslice], none, []⟩])
  (RC.seq (RC.reg [⟨(some 7), .mv (.t 1), none, [1]⟩,
     ⟨(some 8), .bsl 0 4 [(.int .i64 0), (.int .i64 0), (.int .i64 0), (.bool false)] [], none, []⟩,
     ⟨(some 9), .mv (.t 2), none, [2]⟩,
     ⟨(some 10), .app 4 (.t 8) (.t 9), none, [8, 9]⟩,
     ⟨(some 11), .build [(.int .i64 0), .nilslice] [(0, 1, (.t 7)), (1, 1, (.t 10))], none, [7, 10]⟩,
     ⟨none, .st 2 (.t 6) (.t 11), none, [6, 11]⟩])
  (RC.ret))
theorem c33_ok : resK Try.prog Try.f33.ntmps (Try.f33.body.getD .skip) = c33 := by kernel_rfl
theorem c33_res : resR Try.prog Try.f33.ntmps Try.f33.results.toList = [.cn 6 2] := by kernel_rfl
theorem c33_ctr {args : List V} {h : Heap} {K : V → Heap → Prop} (hl : Nat.ble args.length 12 = true) (H : wpC Try.prog c33 (RF.ofL args) h fun e r h' => e.ends ∧ ∃ vs, evR r h' [.cn 6 2] = some vs ∧ K (oneOf vs) h') : Ctr Try.prog 33 args h K :=
  ctr_of_wp follows namesOk Try.func33 (c := Try.f33.body.getD .skip) (by kernel_rfl) (by kernel_rfl) hl c33_ok c33_res H

/-- gimlet/gimletref10.last -/
def c34 : RC :=
  RC.seq (RC.reg [⟨(some 1), .box (.t 0), none, [0]⟩,
     ⟨(some 2), .new [(.int .i64 0), (.int .i64 0), (.int .i64 0), (.bool false)], none, []⟩])
  (RC.seq (RC.reg [⟨(some 3), .fa 1 (.t 1), none, [1]⟩,
     ⟨(some 4), .ld1 (.t 3), none, [3]⟩,
     ⟨(some 5), .fa 1 (.t 1), none, [1]⟩,
     ⟨(some 6), .ld1 (.t 5), none, [5]⟩,
     ⟨(some 7), .len .slice (.t 6), none, [6]⟩,
     ⟨(some 8), .bin (.int .sub) (.t 7) (.c (.int .i64 1)), none, [7]⟩,
     ⟨(some 9), .ia 4 (.t 4) (.t 8), none, [4, 8]⟩,
     ⟨(some 10), .ldn 4 (.t 9), none, [9]⟩,
     ⟨none, .st 4 (.t 2) (.t 10), none, [2, 10]⟩])
  (RC.ret))
theorem c34_ok : resK Try.prog Try.f34.ntmps (Try.f34.body.getD .skip) = c34 := by kernel_rfl
theorem c34_res : resR Try.prog Try.f34.ntmps Try.f34.results.toList = [.cn 2 4] := by kernel_rfl
theorem c34_ctr {args : List V} {h : Heap} {K : V → Heap → Prop} (hl : Nat.ble args.length 11 = true) (H : wpC Try.prog c34 (RF.ofL args) h fun e r h' => e.ends ∧ ∃ vs, evR r h' [.cn 2 4] = some vs ∧ K (oneOf vs) h') : Ctr Try.prog 34 args h K :=
  ctr_of_wp follows namesOk Try.func34 (c := Try.f34.body.getD .skip) (by kernel_rfl) (by kernel_rfl) hl c34_ok c34_res H

/-- gimlet/gimletlaw10.StackBack -/
def c3 : RC :=
  RC.seq (RC.reg [⟨(some 2), .box (.t 0), none, [0]⟩,
     ⟨(some 4), .mv (.c (.bool false)), none, []⟩])
  (RC.seq (RC.reg [⟨(some 12), .call 7 [], none, []⟩,
     ⟨(some 5), .mv (.t 12), none, [12]⟩])
  (RC.seq (RC.seq (RC.reg [⟨(some 13), .ldn 2 (.t 2), none, [2]⟩,
      ⟨(some 14), .call 8 [(.t 13)], none, [13]⟩,
      ⟨(some 15), .bin (.int .neq) (.t 14) (.c (.int .i64 0)), none, [14]⟩,
      ⟨(some 16), .mv (.t 15), none, [15]⟩,
      ⟨(some 17), .mv (.t 1), (some (16, false)), [1, 16]⟩,
      ⟨(some 18), .bin (.int .lss) (.t 17) (.c (.int .i64 0)), (some (16, false)), [17, 16]⟩,
      ⟨(some 19), .pick (.t 16) (.c (.bool true)) (.t 18), none, [16, 18]⟩,
      ⟨(some 20), .mv (.t 19), none, [19]⟩,
      ⟨(some 21), .mv (.t 1), (some (20, false)), [1, 20]⟩,
      ⟨(some 22), .bin (.int .gtr) (.t 21) (.c (.int .i64 1000)), (some (20, false)), [21, 20]⟩,
      ⟨(some 23), .pick (.t 20) (.c (.bool true)) (.t 22), none, [20, 22]⟩])
   (RC.cond (.t 23)
    (RC.seq (RC.reg [⟨(some 24), .mv (.t 5), none, [5]⟩,
        ⟨(some 4), .mv (.t 24), none, [24]⟩])
     (RC.ret))
    (RC.skip)))
  (RC.seq (RC.reg [⟨(some 26), .ldn 2 (.t 2), none, [2]⟩,
     ⟨(some 27), .mv (.t 1), none, [1]⟩,
     ⟨(some 28), .call 9 [(.t 26), (.t 27)], none, [26, 27]⟩,
     ⟨(some 25), .mv (.t 28), none, [28]⟩,
     ⟨(some 29), .ext (.t 25) 0, none, [25]⟩,
     ⟨(some 30), .ext (.t 25) 1, none, [25]⟩,
     ⟨(some 6), .new [(.int .i64 0), .nilslice], none, []⟩,
     ⟨none, .st 2 (.t 6) (.t 29), none, [6, 29]⟩,
     ⟨(some 7), .mv (.t 30), none, [30]⟩])
  (RC.seq (RC.seq (RC.reg [⟨(some 31), .mv (.t 7), none, [7]⟩,
      ⟨(some 32), .bin (.int .neq) (.t 31) (.c (.int .i64 0)), none, [31]⟩])
   (RC.cond (.t 32)
    (RC.seq (RC.reg [⟨(some 33), .mv (.t 5), none, [5]⟩,
        ⟨(some 34), .mv (.t 33), none, [33]⟩,
        ⟨(some 35), .mv (.t 7), (some (34, true)), [7, 34]⟩,
        ⟨(some 36), .bin (.int .eql) (.t 35) (.c (.int .i64 8)), (some (34, true)), [35, 34]⟩,
        ⟨(some 37), .pick (.t 34) (.t 36) (.c (.bool false)), none, [34, 36]⟩,
        ⟨(some 4), .mv (.t 37), none, [37]⟩])
     (RC.ret))
    (RC.skip)))
  (RC.seq (RC.reg [⟨(some 39), .ldn 2 (.t 6), none, [6]⟩,
     ⟨(some 40), .mv (.t 1), none, [1]⟩,
     ⟨(some 41), .call 10 [(.t 39), (.t 40)], none, [39, 40]⟩,
     ⟨(some 38), .mv (.t 41), none, [41]⟩,
     ⟨(some 42), .ext (.t 38) 0, none, [38]⟩,
     ⟨(some 43), .ext (.t 38) 1, none, [38]⟩,
     ⟨(some 8), .new [(.int .i64 0), .nilslice], none, []⟩,
     ⟨none, .st 2 (.t 8) (.t 42), none, [8, 42]⟩,
     ⟨(some 9), .mv (.t 43), none, [43]⟩])
  (RC.seq (RC.seq (RC.reg [⟨(some 44), .mv (.t 9), none, [9]⟩,
      ⟨(some 45), .bin (.int .neq) (.t 44) (.c (.int .i64 0)), none, [44]⟩,
      ⟨(some 46), .mv (.t 45), none, [45]⟩,
      ⟨(some 47), .ldn 2 (.t 8), (some (46, false)), [8, 46]⟩,
      ⟨(some 48), .ldn 2 (.t 2), (some (46, false)), [2, 46]⟩,
      ⟨(some 49), .call 11 [(.t 47), (.t 48)], (some (46, false)), [47, 48, 46]⟩,
      ⟨(some 50), .un .not (.t 49), (some (46, false)), [49, 46]⟩,
      ⟨(some 51), .pick (.t 46) (.c (.bool true)) (.t 50), none, [46, 50]⟩])
   (RC.cond (.t 51)
    (RC.seq (RC.reg [⟨(some 4), .mv (.c (.bool false)), none, []⟩])
     (RC.ret))
    (RC.skip)))
  (RC.seq (RC.reg [⟨(some 53), .ldn 2 (.t 2), none, [2]⟩,
     ⟨(some 54), .mv (.t 1), none, [1]⟩,
     ⟨(some 55), .call 10 [(.t 53), (.t 54)], none, [53, 54]⟩,
     ⟨(some 52), .mv (.t 55), none, [55]⟩,
     ⟨(some 56), .ext (.t 52) 0, none, [52]⟩,
     ⟨(some 57), .ext (.t 52) 1, none, [52]⟩,
     ⟨(some 10), .new [(.int .i64 0), .nilslice], none, []⟩,
     ⟨none, .st 2 (.t 10) (.t 56), none, [10, 56]⟩,
     ⟨(some 11), .mv (.t 57), none, [57]⟩])
  (RC.seq (RC.reg [⟨(some 58), .mv (.t 5), none, [5]⟩,
     ⟨(some 59), .mv (.t 58), none, [58]⟩,
     ⟨(some 60), .mv (.t 11), (some (59, true)), [11, 59]⟩,
     ⟨(some 61), .bin (.int .neq) (.t 60) (.c (.int .i64 0)), (some (59, true)), [60, 59]⟩,
     ⟨(some 62), .mv (.t 61), (some (59, true)), [61, 59]⟩,
     ⟨(some 63), .ldn 2 (.t 10), (some (62, false)), [10, 62]⟩,
     ⟨(some 64), .call 8 [(.t 63)], (some (62, false)), [63, 62]⟩,
     ⟨(some 65), .bin (.int .eql) (.t 64) (.c (.int .i64 0)), (some (62, false)), [64, 62]⟩,
     ⟨(some 66), .mv (.t 65), (some (62, false)), [65, 62]⟩,
     ⟨(some 67), .fa 0 (.t 10), (some (66, true)), [10, 66]⟩,
     ⟨(some 68), .ld1 (.t 67), (some (66, true)), [67, 66]⟩,
     ⟨(some 69), .fa 0 (.t 2), (some (66, true)), [2, 66]⟩,
     ⟨(some 70), .ld1 (.t 69), (some (66, true)), [69, 66]⟩,
     ⟨(some 71), .bin (.int .leq) (.t 68) (.t 70), (some (66, true)), [68, 70, 66]⟩,
     ⟨(some 72), .pick (.t 66) (.t 71) (.c (.bool false)), (some (62, false)), [66, 71, 62]⟩,
     ⟨(some 73), .pick (.t 62) (.c (.bool true)) (.t 72), (some (59, true)), [62, 72, 59]⟩,
     ⟨(some 74), .pick (.t 59) (.t 73) (.c (.bool false)), none, [59, 73]⟩,
     ⟨(some 4), .mv (.t 74), none, [74]⟩])
  (RC.ret)))))))))
theorem c3_ok : resK Try.prog Try.f3.ntmps (Try.f3.body.getD .skip) = c3 := by kernel_rfl
theorem c3_res : resR Try.prog Try.f3.ntmps Try.f3.results.toList = [.t 4] := by kernel_rfl
theorem c3_ctr {args : List V} {h : Heap} {K : V → Heap → Prop} (hl : Nat.ble args.length 75 = true) (H : wpC Try.prog c3 (RF.ofL args) h fun e r h' => e.ends ∧ ∃ vs, evR r h' [.t 4] = some vs ∧ K (oneOf vs) h') : Ctr Try.prog 3 args h K :=
  ctr_of_wp follows namesOk Try.func3 (c := Try.f3.body.getD .skip) (by kernel_rfl) (by kernel_rfl) hl c3_ok c3_res H

/-- gimlet/gimletlaw10.StackTells -/
def c4 : RC :=
  RC.seq (RC.reg [⟨(some 4), .box (.t 0), none, [0]⟩,
     ⟨(some 8), .mv (.c (.bool false)), none, []⟩])
  (RC.seq (RC.seq (RC.reg [⟨(some 18), .fa 1 (.t 4), none, [4]⟩,
      ⟨(some 19), .ld1 (.t 18), none, [18]⟩,
      ⟨(some 20), .len .slice (.t 19), none, [19]⟩,
      ⟨(some 21), .bin (.int .gtr) (.t 20) (.c (.int .i64 1100)), none, [20]⟩])
   (RC.cond (.t 21)
    (RC.seq (RC.reg [⟨(some 8), .mv (.c (.bool true)), none, []⟩])
     (RC.ret))
    (RC.skip)))
  (RC.seq (RC.reg [⟨(some 22), .ldn 2 (.t 4), none, [4]⟩,
     ⟨(some 23), .call 12 [(.t 22)], none, [22]⟩,
     ⟨(some 9), .new [(.int .i64 0), .nilslice], none, []⟩,
     ⟨none, .st 2 (.t 9) (.t 23), none, [9, 23]⟩])
  (RC.seq (RC.reg [⟨(some 25), .ldn 2 (.t 9), none, [9]⟩,
     ⟨(some 26), .mv (.t 1), none, [1]⟩,
     ⟨(some 27), .call 9 [(.t 25), (.t 26)], none, [25, 26]⟩,
     ⟨(some 24), .mv (.t 27), none, [27]⟩,
     ⟨(some 28), .ext (.t 24) 0, none, [24]⟩,
     ⟨(some 29), .ext (.t 24) 1, none, [24]⟩,
     ⟨(some 10), .new [(.int .i64 0), .nilslice], none, []⟩,
     ⟨none, .st 2 (.t 10) (.t 28), none, [10, 28]⟩,
     ⟨(some 11), .mv (.t 29), none, [29]⟩])
  (RC.seq (RC.reg [⟨(some 31), .ldn 2 (.t 4), none, [4]⟩,
     ⟨(some 32), .mv (.t 1), none, [1]⟩,
     ⟨(some 33), .call 13 [(.t 31), (.t 32)], none, [31, 32]⟩,
     ⟨(some 30), .mv (.t 33), none, [33]⟩,
     ⟨(some 34), .ext (.t 30) 0, none, [30]⟩,
     ⟨(some 35), .ext (.t 30) 1, none, [30]⟩,
     ⟨(some 12), .new [(.int .i64 0), .nilslice], none, []⟩,
     ⟨none, .st 2 (.t 12) (.t 34), none, [12, 34]⟩,
     ⟨(some 13), .mv (.t 35), none, [35]⟩])
  (RC.seq (RC.seq (RC.reg [⟨(some 36), .ldn 2 (.t 10), none, [10]⟩,
      ⟨(some 37), .mv (.t 11), none, [11]⟩,
      ⟨(some 38), .ldn 2 (.t 12), none, [12]⟩,
      ⟨(some 39), .mv (.t 13), none, [13]⟩,
      ⟨(some 40), .ldn 2 (.t 9), none, [9]⟩,
      ⟨(some 41), .ldn 2 (.t 4), none, [4]⟩,
      ⟨(some 42), .call 14 [(.t 36), (.t 37), (.t 38), (.t 39), (.t 40), (.t 41)], none, [36, 37, 38, 39, 40, 41]⟩,
      ⟨(some 43), .un .not (.t 42), none, [42]⟩])
   (RC.cond (.t 43)
    (RC.seq (RC.reg [⟨(some 8), .mv (.c (.bool false)), none, []⟩])
     (RC.ret))
    (RC.skip)))
  (RC.seq (RC.reg [⟨(some 45), .ldn 2 (.t 9), none, [9]⟩,
     ⟨(some 46), .mv (.t 1), none, [1]⟩,
     ⟨(some 47), .call 10 [(.t 45), (.t 46)], none, [45, 46]⟩,
     ⟨(some 44), .mv (.t 47), none, [47]⟩,
     ⟨(some 48), .ext (.t 44) 0, none, [44]⟩,
     ⟨(some 49), .ext (.t 44) 1, none, [44]⟩,
     ⟨none, .st 2 (.t 10) (.t 48), none, [10, 48]⟩,
     ⟨(some 11), .mv (.t 49), none, [49]⟩])
  (RC.seq (RC.reg [⟨(some 51), .ldn 2 (.t 4), none, [4]⟩,
     ⟨(some 52), .mv (.t 1), none, [1]⟩,
     ⟨(some 53), .call 15 [(.t 51), (.t 52)], none, [51, 52]⟩,
     ⟨(some 50), .mv (.t 53), none, [53]⟩,
     ⟨(some 54), .ext (.t 50) 0, none, [50]⟩,
     ⟨(some 55), .ext (.t 50) 1, none, [50]⟩,
     ⟨none, .st 2 (.t 12) (.t 54), none, [12, 54]⟩,
     ⟨(some 13), .mv (.t 55), none, [55]⟩])
  (RC.seq (RC.seq (RC.reg [⟨(some 56), .ldn 2 (.t 10), none, [10]⟩,
      ⟨(some 57), .mv (.t 11), none, [11]⟩,
      ⟨(some 58), .ldn 2 (.t 12), none, [12]⟩,
      ⟨(some 59), .mv (.t 13), none, [13]⟩,
      ⟨(some 60), .ldn 2 (.t 9), none, [9]⟩,
      ⟨(some 61), .ldn 2 (.t 4), none, [4]⟩,
      ⟨(some 62), .call 14 [(.t 56), (.t 57), (.t 58), (.t 59), (.t 60), (.t 61)], none, [56, 57, 58, 59, 60, 61]⟩,
      ⟨(some 63), .un .not (.t 62), none, [62]⟩])
   (RC.cond (.t 63)
    (RC.seq (RC.reg [⟨(some 8), .mv (.c (.bool false)), none, []⟩])
     (RC.ret))
    (RC.skip)))
  (RC.seq (RC.reg [⟨(some 65), .ldn 2 (.t 9), none, [9]⟩,
     ⟨(some 66), .call 16 [(.t 65)], none, [65]⟩,
     ⟨(some 64), .mv (.t 66), none, [66]⟩,
     ⟨(some 67), .ext (.t 64) 0, none, [64]⟩,
     ⟨(some 68), .ext (.t 64) 1, none, [64]⟩,
     ⟨none, .st 2 (.t 10) (.t 67), none, [10, 67]⟩,
     ⟨(some 11), .mv (.t 68), none, [68]⟩])
  (RC.seq (RC.reg [⟨(some 70), .ldn 2 (.t 4), none, [4]⟩,
     ⟨(some 71), .call 17 [(.t 70)], none, [70]⟩,
     ⟨(some 69), .mv (.t 71), none, [71]⟩,
     ⟨(some 72), .ext (.t 69) 0, none, [69]⟩,
     ⟨(some 73), .ext (.t 69) 1, none, [69]⟩,
     ⟨none, .st 2 (.t 12) (.t 72), none, [12, 72]⟩,
     ⟨(some 13), .mv (.t 73), none, [73]⟩])
  (RC.seq (RC.seq (RC.reg [⟨(some 74), .ldn 2 (.t 10), none, [10]⟩,
      ⟨(some 75), .mv (.t 11), none, [11]⟩,
      ⟨(some 76), .ldn 2 (.t 12), none, [12]⟩,
      ⟨(some 77), .mv (.t 13), none, [13]⟩,
      ⟨(some 78), .ldn 2 (.t 9), none, [9]⟩,
      ⟨(some 79), .ldn 2 (.t 4), none, [4]⟩,
      ⟨(some 80), .call 14 [(.t 74), (.t 75), (.t 76), (.t 77), (.t 78), (.t 79)], none, [74, 75, 76, 77, 78, 79]⟩,
      ⟨(some 81), .un .not (.t 80), none, [80]⟩])
   (RC.cond (.t 81)
    (RC.seq (RC.reg [⟨(some 8), .mv (.c (.bool false)), none, []⟩])
     (RC.ret))
    (RC.skip)))
  (RC.seq (RC.reg [⟨(some 83), .ldn 2 (.t 9), none, [9]⟩,
     ⟨(some 84), .mv (.t 2), none, [2]⟩,
     ⟨(some 85), .mv (.t 3), none, [3]⟩,
     ⟨(some 86), .call 18 [(.t 83), (.t 84), (.t 85)], none, [83, 84, 85]⟩,
     ⟨(some 82), .mv (.t 86), none, [86]⟩,
     ⟨(some 87), .ext (.t 82) 0, none, [82]⟩,
     ⟨(some 88), .ext (.t 82) 1, none, [82]⟩,
     ⟨none, .st 2 (.t 10) (.t 87), none, [10, 87]⟩,
     ⟨(some 11), .mv (.t 88), none, [88]⟩])
  (RC.seq (RC.reg [⟨(some 90), .ldn 2 (.t 4), none, [4]⟩,
     ⟨(some 91), .mv (.t 2), none, [2]⟩,
     ⟨(some 92), .mv (.t 3), none, [3]⟩,
     ⟨(some 93), .call 19 [(.t 90), (.t 91), (.t 92)], none, [90, 91, 92]⟩,
     ⟨(some 89), .mv (.t 93), none, [93]⟩,
     ⟨(some 94), .ext (.t 89) 0, none, [89]⟩,
     ⟨(some 95), .ext (.t 89) 1, none, [89]⟩,
     ⟨none, .st 2 (.t 12) (.t 94), none, [12, 94]⟩,
     ⟨(some 13), .mv (.t 95), none, [95]⟩])
  (RC.seq (RC.seq (RC.reg [⟨(some 96), .ldn 2 (.t 10), none, [10]⟩,
      ⟨(some 97), .mv (.t 11), none, [11]⟩,
      ⟨(some 98), .ldn 2 (.t 12), none, [12]⟩,
      ⟨(some 99), .mv (.t 13), none, [13]⟩,
      ⟨(some 100), .ldn 2 (.t 9), none, [9]⟩,
      ⟨(some 101), .ldn 2 (.t 4), none, [4]⟩,
      ⟨(some 102), .call 14 [(.t 96), (.t 97), (.t 98), (.t 99), (.t 100), (.t 101)], none, [96, 97, 98, 99, 100, 101]⟩,
      ⟨(some 103), .un .not (.t 102), none, [102]⟩])
   (RC.cond (.t 103)
    (RC.seq (RC.reg [⟨(some 8), .mv (.c (.bool false)), none, []⟩])
     (RC.ret))
    (RC.skip)))
  (RC.seq (RC.reg [⟨(some 105), .ldn 2 (.t 9), none, [9]⟩,
     ⟨(some 106), .call 20 [(.t 105)], none, [105]⟩,
     ⟨(some 104), .mv (.t 106), none, [106]⟩,
     ⟨(some 107), .ext (.t 104) 0, none, [104]⟩,
     ⟨(some 108), .ext (.t 104) 1, none, [104]⟩,
     ⟨none, .st 2 (.t 10) (.t 107), none, [10, 107]⟩,
     ⟨(some 11), .mv (.t 108), none, [108]⟩])
  (RC.seq (RC.reg [⟨(some 110), .ldn 2 (.t 4), none, [4]⟩,
     ⟨(some 111), .call 21 [(.t 110)], none, [110]⟩,
     ⟨(some 109), .mv (.t 111), none, [111]⟩,
     ⟨(some 112), .ext (.t 109) 0, none, [109]⟩,
     ⟨(some 113), .ext (.t 109) 1, none, [109]⟩,
     ⟨none, .st 2 (.t 12) (.t 112), none, [12, 112]⟩,
     ⟨(some 13), .mv (.t 113), none, [113]⟩])
  (RC.seq (RC.seq (RC.reg [⟨(some 114), .ldn 2 (.t 10), none, [10]⟩,
      ⟨(some 115), .mv (.t 11), none, [11]⟩,
      ⟨(some 116), .ldn 2 (.t 12), none, [12]⟩,
      ⟨(some 117), .mv (.t 13), none, [13]⟩,
      ⟨(some 118), .ldn 2 (.t 9), none, [9]⟩,
      ⟨(some 119), .ldn 2 (.t 4), none, [4]⟩,
      ⟨(some 120), .call 14 [(.t 114), (.t 115), (.t 116), (.t 117), (.t 118), (.t 119)], none, [114, 115, 116, 117, 118, 119]⟩,
      ⟨(some 121), .un .not (.t 120), none, [120]⟩])
   (RC.cond (.t 121)
    (RC.seq (RC.reg [⟨(some 8), .mv (.c (.bool false)), none, []⟩])
     (RC.ret))
    (RC.skip)))
  (RC.seq (RC.reg [⟨(some 123), .ldn 2 (.t 9), none, [9]⟩,
     ⟨(some 124), .mv (.t 1), none, [1]⟩,
     ⟨(some 125), .call 22 [(.t 123), (.t 124)], none, [123, 124]⟩,
     ⟨(some 122), .mv (.t 125), none, [125]⟩,
     ⟨(some 126), .ext (.t 122) 0, none, [122]⟩,
     ⟨(some 127), .ext (.t 122) 1, none, [122]⟩,
     ⟨(some 14), .mv (.t 126), none, [126]⟩,
     ⟨(some 15), .mv (.t 127), none, [127]⟩])
  (RC.seq (RC.reg [⟨(some 129), .ldn 2 (.t 4), none, [4]⟩,
     ⟨(some 130), .mv (.t 1), none, [1]⟩,
     ⟨(some 131), .call 23 [(.t 129), (.t 130)], none, [129, 130]⟩,
     ⟨(some 128), .mv (.t 131), none, [131]⟩,
     ⟨(some 132), .ext (.t 128) 0, none, [128]⟩,
     ⟨(some 133), .ext (.t 128) 1, none, [128]⟩,
     ⟨(some 16), .mv (.t 132), none, [132]⟩,
     ⟨(some 17), .mv (.t 133), none, [133]⟩])
  (RC.seq (RC.reg [⟨(some 135), .mv (.t 3), none, [3]⟩,
     ⟨(some 136), .call 24 [(.t 135)], none, [135]⟩,
     ⟨(some 134), .mv (.t 136), none, [136]⟩,
     ⟨(some 137), .ext (.t 134) 0, none, [134]⟩,
     ⟨(some 138), .ext (.t 134) 1, none, [134]⟩,
     ⟨none, .st 2 (.t 10) (.t 137), none, [10, 137]⟩,
     ⟨(some 11), .mv (.t 138), none, [138]⟩])
  (RC.seq (RC.reg [⟨(some 140), .mv (.t 3), none, [3]⟩,
     ⟨(some 141), .call 25 [(.t 140)], none, [140]⟩,
     ⟨(some 139), .mv (.t 141), none, [141]⟩,
     ⟨(some 142), .ext (.t 139) 0, none, [139]⟩,
     ⟨(some 143), .ext (.t 139) 1, none, [139]⟩,
     ⟨none, .st 2 (.t 12) (.t 142), none, [12, 142]⟩,
     ⟨(some 13), .mv (.t 143), none, [143]⟩])
  (RC.seq (RC.draw [⟨(some 144), .mv (.t 14), none, [14]⟩,
     ⟨(some 145), .mv (.t 16), none, [16]⟩,
     ⟨(some 146), .bin (.int .eql) (.t 144) (.t 145), none, [144, 145]⟩,
     ⟨(some 147), .mv (.t 146), none, [146]⟩,
     ⟨(some 148), .mv (.t 15), (some (147, true)), [15, 147]⟩,
     ⟨(some 149), .mv (.t 17), (some (147, true)), [17, 147]⟩,
     ⟨(some 150), .bin (.int .eql) (.t 148) (.t 149), (some (147, true)), [148, 149, 147]⟩,
     ⟨(some 151), .pick (.t 147) (.t 150) (.c (.bool false)), none, [147, 150]⟩,
     ⟨(some 152), .mv (.t 151), none, [151]⟩,
     ⟨(some 153), .ldn 2 (.t 10), (some (152, true)), [10, 152]⟩,
     ⟨(some 154), .mv (.t 11), (some (152, true)), [11, 152]⟩,
     ⟨(some 155), .ldn 2 (.t 12), (some (152, true)), [12, 152]⟩,
     ⟨(some 156), .mv (.t 13), (some (152, true)), [13, 152]⟩,
     ⟨(some 157), .ldn 2 (.t 9), (some (152, true)), [9, 152]⟩,
     ⟨(some 158), .ldn 2 (.t 4), (some (152, true)), [4, 152]⟩,
     ⟨(some 159), .call 14 [(.t 153), (.t 154), (.t 155), (.t 156), (.t 157), (.t 158)], (some (152, true)), [153, 154, 155, 156, 157, 158, 152]⟩,
     ⟨(some 160), .pick (.t 152) (.t 159) (.c (.bool false)), none, [152, 159]⟩,
     ⟨(some 161), .mv (.t 160), none, [160]⟩,
     ⟨(some 162), .ldn 2 (.t 9), (some (161, true)), [9, 161]⟩,
     ⟨(some 164), .ldn 2 (.t 4), (some (161, true)), [4, 161]⟩,
     ⟨(some 163), .call 8 [(.t 162)], (some (161, true)), [162, 161]⟩,
     ⟨(some 165), .call 26 [(.t 164)], (some (161, true)), [164, 161]⟩,
     ⟨(some 166), .bin (.int .eql) (.t 163) (.t 165), (some (161, true)), [163, 165, 161]⟩,
     ⟨(some 167), .pick (.t 161) (.t 166) (.c (.bool false)), none, [161, 166]⟩,
     ⟨(some 168), .mv (.t 167), none, [167]⟩,
     ⟨(some 169), .call 7 [], (some (168, true)), [168]⟩,
     ⟨(some 170), .pick (.t 168) (.t 169) (.c (.bool false)), none, [168, 169]⟩,
     ⟨(some 8), .mv (.t 170), none, [170]⟩] [(9, [15]), (11, [15]), (13, [15]), (14, [15]), (18, [20]), (19, [20, 21])])
  (RC.ret)))))))))))))))))))))))
theorem c4_ok : resK Try.prog Try.f4.ntmps (Try.f4.body.getD .skip) = c4 := by kernel_rfl
theorem c4_res : resR Try.prog Try.f4.ntmps Try.f4.results.toList = [.t 8] := by kernel_rfl
theorem c4_ctr {args : List V} {h : Heap} {K : V → Heap → Prop} (hl : Nat.ble args.length 171 = true) (H : wpC Try.prog c4 (RF.ofL args) h fun e r h' => e.ends ∧ ∃ vs, evR r h' [.t 8] = some vs ∧ K (oneOf vs) h') : Ctr Try.prog 4 args h K :=
  ctr_of_wp follows namesOk Try.func4 (c := Try.f4.body.getD .skip) (by kernel_rfl) (by kernel_rfl) hl c4_ok c4_res H

/-- gimlet/gimletlaw10.StackLists -/
def c5 : RC :=
  RC.seq (RC.reg [⟨(some 5), .box (.t 0), none, [0]⟩,
     ⟨(some 10), .mv (.c (.bool false)), none, []⟩])
  (RC.seq (RC.reg [⟨(some 20), .call 7 [], none, []⟩,
     ⟨(some 11), .mv (.t 20), none, [20]⟩])
  (RC.seq (RC.seq (RC.reg [⟨(some 21), .mv (.t 3), none, [3]⟩,
      ⟨(some 22), .bin (.int .lss) (.t 21) (.c (.int .i64 0)), none, [21]⟩,
      ⟨(some 23), .mv (.t 22), none, [22]⟩,
      ⟨(some 24), .mv (.t 3), (some (23, false)), [3, 23]⟩,
      ⟨(some 25), .bin (.int .gtr) (.t 24) (.c (.int .i64 1000)), (some (23, false)), [24, 23]⟩,
      ⟨(some 26), .pick (.t 23) (.c (.bool true)) (.t 25), none, [23, 25]⟩,
      ⟨(some 27), .mv (.t 26), none, [26]⟩,
      ⟨(some 28), .fa 0 (.t 5), (some (27, false)), [5, 27]⟩,
      ⟨(some 29), .ld1 (.t 28), (some (27, false)), [28, 27]⟩,
      ⟨(some 30), .bin (.int .gtr) (.t 29) (.c (.int .i64 536870912)), (some (27, false)), [29, 27]⟩,
      ⟨(some 31), .pick (.t 27) (.c (.bool true)) (.t 30), none, [27, 30]⟩])
   (RC.cond (.t 31)
    (RC.seq (RC.reg [⟨(some 32), .mv (.t 11), none, [11]⟩,
        ⟨(some 10), .mv (.t 32), none, [32]⟩])
     (RC.ret))
    (RC.skip)))
  (RC.seq (RC.reg [⟨(some 34), .ldn 2 (.t 5), none, [5]⟩,
     ⟨(some 35), .mv (.t 1), none, [1]⟩,
     ⟨(some 36), .mv (.t 2), none, [2]⟩,
     ⟨(some 37), .call 18 [(.t 34), (.t 35), (.t 36)], none, [34, 35, 36]⟩,
     ⟨(some 33), .mv (.t 37), none, [37]⟩,
     ⟨(some 38), .ext (.t 33) 0, none, [33]⟩,
     ⟨(some 39), .ext (.t 33) 1, none, [33]⟩,
     ⟨(some 12), .new [(.int .i64 0), .nilslice], none, []⟩,
     ⟨none, .st 2 (.t 12) (.t 38), none, [12, 38]⟩,
     ⟨(some 13), .mv (.t 39), none, [39]⟩])
  (RC.seq (RC.seq (RC.reg [⟨(some 40), .mv (.t 13), none, [13]⟩,
      ⟨(some 41), .bin (.int .neq) (.t 40) (.c (.int .i64 0)), none, [40]⟩])
   (RC.cond (.t 41)
    (RC.seq (RC.reg [⟨(some 42), .mv (.t 11), none, [11]⟩,
        ⟨(some 10), .mv (.t 42), none, [42]⟩])
     (RC.ret))
    (RC.skip)))
  (RC.seq (RC.seq (RC.reg [⟨(some 43), .mv (.t 4), none, [4]⟩])
   (RC.cond (.t 43)
    (RC.reg [⟨(some 45), .ldn 2 (.t 12), none, [12]⟩,
       ⟨(some 46), .call 16 [(.t 45)], none, [45]⟩,
       ⟨(some 44), .mv (.t 46), none, [46]⟩,
       ⟨(some 47), .ext (.t 44) 0, none, [44]⟩,
       ⟨(some 48), .ext (.t 44) 1, none, [44]⟩,
       ⟨none, .st 2 (.t 12) (.t 47), none, [12, 47]⟩,
       ⟨(some 13), .mv (.t 48), none, [48]⟩])
    (RC.skip)))
  (RC.seq (RC.reg [⟨(some 50), .ldn 2 (.t 12), none, [12]⟩,
     ⟨(some 51), .mv (.t 3), none, [3]⟩,
     ⟨(some 52), .call 9 [(.t 50), (.t 51)], none, [50, 51]⟩,
     ⟨(some 49), .mv (.t 52), none, [52]⟩,
     ⟨(some 53), .ext (.t 49) 0, none, [49]⟩,
     ⟨(some 54), .ext (.t 49) 1, none, [49]⟩,
     ⟨(some 14), .new [(.int .i64 0), .nilslice], none, []⟩,
     ⟨none, .st 2 (.t 14) (.t 53), none, [14, 53]⟩,
     ⟨(some 15), .mv (.t 54), none, [54]⟩])
  (RC.seq (RC.seq (RC.reg [⟨(some 55), .mv (.t 13), none, [13]⟩,
      ⟨(some 56), .bin (.int .neq) (.t 55) (.c (.int .i64 0)), none, [55]⟩,
      ⟨(some 57), .mv (.t 56), none, [56]⟩,
      ⟨(some 58), .mv (.t 15), (some (57, false)), [15, 57]⟩,
      ⟨(some 59), .bin (.int .neq) (.t 58) (.c (.int .i64 0)), (some (57, false)), [58, 57]⟩,
      ⟨(some 60), .pick (.t 57) (.c (.bool true)) (.t 59), none, [57, 59]⟩])
   (RC.cond (.t 60)
    (RC.seq (RC.reg [⟨(some 10), .mv (.c (.bool false)), none, []⟩])
     (RC.ret))
    (RC.skip)))
  (RC.seq (RC.reg [⟨(some 62), .ldn 2 (.t 14), none, [14]⟩,
     ⟨(some 63), .call 20 [(.t 62)], none, [62]⟩,
     ⟨(some 61), .mv (.t 63), none, [63]⟩,
     ⟨(some 64), .ext (.t 61) 0, none, [61]⟩,
     ⟨(some 65), .ext (.t 61) 1, none, [61]⟩,
     ⟨(some 16), .new [(.int .i64 0), .nilslice], none, []⟩,
     ⟨none, .st 2 (.t 16) (.t 64), none, [16, 64]⟩,
     ⟨(some 17), .mv (.t 65), none, [65]⟩])
  (RC.seq (RC.seq (RC.reg [⟨(some 66), .mv (.t 3), none, [3]⟩,
      ⟨(some 67), .mv (.t 2), none, [2]⟩,
      ⟨(some 68), .bin (.int .gtr) (.t 66) (.t 67), none, [66, 67]⟩])
   (RC.cond (.t 68)
    (RC.seq (RC.reg [⟨(some 69), .mv (.t 11), none, [11]⟩,
        ⟨(some 70), .mv (.t 69), none, [69]⟩,
        ⟨(some 71), .mv (.t 17), (some (70, true)), [17, 70]⟩,
        ⟨(some 72), .bin (.int .eql) (.t 71) (.c (.int .i64 201)), (some (70, true)), [71, 70]⟩,
        ⟨(some 73), .pick (.t 70) (.t 72) (.c (.bool false)), none, [70, 72]⟩,
        ⟨(some 10), .mv (.t 73), none, [73]⟩])
     (RC.ret))
    (RC.skip)))
  (RC.seq (RC.seq (RC.reg [⟨(some 74), .mv (.t 3), none, [3]⟩,
      ⟨(some 75), .mv (.t 2), none, [2]⟩,
      ⟨(some 76), .bin (.int .lss) (.t 74) (.t 75), none, [74, 75]⟩,
      ⟨(some 77), .mv (.t 76), none, [76]⟩,
      ⟨(some 78), .mv (.t 4), (some (77, true)), [4, 77]⟩,
      ⟨(some 79), .un .not (.t 78), (some (77, true)), [78, 77]⟩,
      ⟨(some 80), .pick (.t 77) (.t 79) (.c (.bool false)), none, [77, 79]⟩])
   (RC.cond (.t 80)
    (RC.seq (RC.reg [⟨(some 81), .mv (.t 11), none, [11]⟩,
        ⟨(some 82), .mv (.t 81), none, [81]⟩,
        ⟨(some 83), .mv (.t 17), (some (82, true)), [17, 82]⟩,
        ⟨(some 84), .bin (.int .eql) (.t 83) (.c (.int .i64 200)), (some (82, true)), [83, 82]⟩,
        ⟨(some 85), .pick (.t 82) (.t 84) (.c (.bool false)), none, [82, 84]⟩,
        ⟨(some 10), .mv (.t 85), none, [85]⟩])
     (RC.ret))
    (RC.skip)))
  (RC.seq (RC.reg [⟨(some 87), .ldn 2 (.t 5), none, [5]⟩,
     ⟨(some 88), .mv (.t 2), none, [2]⟩,
     ⟨(some 89), .call 9 [(.t 87), (.t 88)], none, [87, 88]⟩,
     ⟨(some 86), .mv (.t 89), none, [89]⟩,
     ⟨(some 90), .ext (.t 86) 0, none, [86]⟩,
     ⟨(some 91), .ext (.t 86) 1, none, [86]⟩,
     ⟨(some 18), .new [(.int .i64 0), .nilslice], none, []⟩,
     ⟨none, .st 2 (.t 18) (.t 90), none, [18, 90]⟩,
     ⟨(some 19), .mv (.t 91), none, [91]⟩])
  (RC.seq (RC.reg [⟨(some 92), .mv (.t 11), none, [11]⟩,
     ⟨(some 93), .mv (.t 92), none, [92]⟩,
     ⟨(some 94), .mv (.t 17), (some (93, true)), [17, 93]⟩,
     ⟨(some 95), .bin (.int .eql) (.t 94) (.c (.int .i64 0)), (some (93, true)), [94, 93]⟩,
     ⟨(some 96), .pick (.t 93) (.t 95) (.c (.bool false)), none, [93, 95]⟩,
     ⟨(some 97), .mv (.t 96), none, [96]⟩,
     ⟨(some 98), .mv (.t 19), (some (97, true)), [19, 97]⟩,
     ⟨(some 99), .bin (.int .eql) (.t 98) (.c (.int .i64 0)), (some (97, true)), [98, 97]⟩,
     ⟨(some 100), .pick (.t 97) (.t 99) (.c (.bool false)), none, [97, 99]⟩,
     ⟨(some 101), .mv (.t 100), none, [100]⟩,
     ⟨(some 102), .ldn 2 (.t 16), (some (101, true)), [16, 101]⟩,
     ⟨(some 103), .ldn 2 (.t 18), (some (101, true)), [18, 101]⟩,
     ⟨(some 104), .call 11 [(.t 102), (.t 103)], (some (101, true)), [102, 103, 101]⟩,
     ⟨(some 105), .pick (.t 101) (.t 104) (.c (.bool false)), none, [101, 104]⟩,
     ⟨(some 10), .mv (.t 105), none, [105]⟩])
  (RC.ret)))))))))))))
theorem c5_ok : resK Try.prog Try.f5.ntmps (Try.f5.body.getD .skip) = c5 := by kernel_rfl
theorem c5_res : resR Try.prog Try.f5.ntmps Try.f5.results.toList = [.t 10] := by kernel_rfl
theorem c5_ctr {args : List V} {h : Heap} {K : V → Heap → Prop} (hl : Nat.ble args.length 106 = true) (H : wpC Try.prog c5 (RF.ofL args) h fun e r h' => e.ends ∧ ∃ vs, evR r h' [.t 10] = some vs ∧ K (oneOf vs) h') : Ctr Try.prog 5 args h K :=
  ctr_of_wp follows namesOk Try.func5 (c := Try.f5.body.getD .skip) (by kernel_rfl) (by kernel_rfl) hl c5_ok c5_res H

end Go.Proofs.Ytkjifhoiiciblaa
