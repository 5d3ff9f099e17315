/- The chapter's functions, walked by the abstract machine: plain lemmas, no condition. -/
import Derived.Test.YthcgccnbhdociaaDoorM5
import Derived.Test.YthcgccnbhdociaaDoorM4

namespace Go.Proofs.YthcgccnbhdociaaDoor
open Go Am
set_option linter.unusedSectionVars false
/-- gimlet/gimletlaw15.LexTells -/
def c3l1 : RC :=
  RC.seq (RC.seq (RC.reg [⟨(some 33), .mv (.t 7), none, [7]⟩,
      ⟨(some 34), .mv (.t 3), none, [3]⟩,
      ⟨(some 35), .len .slice (.t 34), none, [34]⟩,
      ⟨(some 36), .bin (.int .lss) (.t 33) (.t 35), none, [33, 35]⟩])
   (RC.cond (.t 36)
    (RC.skip)
    (RC.exit 0)))
  (RC.seq (RC.block 1 (RC.reg [⟨(some 39), .mv (.t 3), none, [3]⟩,
      ⟨(some 40), .mv (.t 7), none, [7]⟩,
      ⟨(some 41), .build [(.int .i64 0), (.int .i64 0), (.int .i64 0), (.str [])] [], none, []⟩,
      ⟨(some 42), .ia 4 (.t 39) (.t 40), none, [39, 40]⟩,
      ⟨none, .st 4 (.t 42) (.t 41), none, [42, 41]⟩]))
  (RC.reg [⟨(some 37), .mv (.t 7), none, [7]⟩,
    ⟨(some 38), .bin (.int .add) (.t 37) (.c (.int .i64 1)), none, [37]⟩,
    ⟨(some 7), .mv (.t 38), none, [38]⟩]))
def c3 : RC :=
  RC.seq (RC.reg [⟨(some 2), .mv (.c (.bool false)), none, []⟩])
  (RC.seq (RC.seq (RC.reg [⟨(some 10), .mv (.t 0), none, [0]⟩,
      ⟨(some 11), .len .str (.t 10), none, [10]⟩,
      ⟨(some 12), .bin (.int .gtr) (.t 11) (.c (.int .i64 3000)), none, [11]⟩])
   (RC.cond (.t 12)
    (RC.seq (RC.reg [⟨(some 13), .call 9 [], none, []⟩,
        ⟨(some 2), .mv (.t 13), none, [13]⟩])
     (RC.ret))
    (RC.skip)))
  (RC.seq (RC.reg [⟨(some 15), .mv (.t 0), none, [0]⟩,
     ⟨(some 16), .call 10 [(.t 15)], none, [15]⟩,
     ⟨(some 14), .mv (.t 16), none, [16]⟩,
     ⟨(some 17), .ext (.t 14) 0, none, [14]⟩,
     ⟨(some 18), .ext (.t 14) 1, none, [14]⟩,
     ⟨(some 4), .new [(.int .i64 0), (.int .i64 0)], none, []⟩,
     ⟨(some 3), .mv (.t 17), none, [17]⟩,
     ⟨none, .st 2 (.t 4) (.t 18), none, [4, 18]⟩])
  (RC.seq (RC.reg [⟨(some 20), .mv (.t 0), none, [0]⟩,
     ⟨(some 21), .call 11 [(.t 20)], none, [20]⟩,
     ⟨(some 19), .mv (.t 21), none, [21]⟩,
     ⟨(some 22), .ext (.t 19) 0, none, [19]⟩,
     ⟨(some 23), .ext (.t 19) 1, none, [19]⟩,
     ⟨(some 6), .new [(.int .i64 0), (.int .i64 0)], none, []⟩,
     ⟨(some 5), .mv (.t 22), none, [22]⟩,
     ⟨none, .st 2 (.t 6) (.t 23), none, [6, 23]⟩])
  (RC.seq (RC.seq (RC.reg [⟨(some 24), .mv (.t 3), none, [3]⟩,
      ⟨(some 25), .mv (.t 5), none, [5]⟩,
      ⟨(some 26), .call 12 [(.t 24), (.t 25)], none, [24, 25]⟩,
      ⟨(some 27), .un .not (.t 26), none, [26]⟩,
      ⟨(some 28), .mv (.t 27), none, [27]⟩,
      ⟨(some 29), .ldn 2 (.t 4), (some (28, false)), [4, 28]⟩,
      ⟨(some 30), .ldn 2 (.t 6), (some (28, false)), [6, 28]⟩,
      ⟨(some 31), .bin (.other .neq 26) (.t 29) (.t 30), (some (28, false)), [29, 30, 28]⟩,
      ⟨(some 32), .pick (.t 28) (.c (.bool true)) (.t 31), none, [28, 31]⟩])
   (RC.cond (.t 32)
    (RC.seq (RC.reg [⟨(some 2), .mv (.c (.bool false)), none, []⟩])
     (RC.ret))
    (RC.skip)))
  (RC.seq (RC.seq (RC.reg [⟨(some 7), .mv (.c (.int .i64 0)), none, []⟩])
   (RC.block 0 (RC.loop c3l1)))
  (RC.seq (RC.reg [⟨(some 44), .mv (.t 0), none, [0]⟩,
     ⟨(some 45), .call 10 [(.t 44)], none, [44]⟩,
     ⟨(some 43), .mv (.t 45), none, [45]⟩,
     ⟨(some 46), .ext (.t 43) 0, none, [43]⟩,
     ⟨(some 47), .ext (.t 43) 1, none, [43]⟩,
     ⟨(some 9), .new [(.int .i64 0), (.int .i64 0)], none, []⟩,
     ⟨(some 8), .mv (.t 46), none, [46]⟩,
     ⟨none, .st 2 (.t 9) (.t 47), none, [9, 47]⟩])
  (RC.seq (RC.reg [⟨(some 48), .mv (.t 8), none, [8]⟩,
     ⟨(some 49), .mv (.t 5), none, [5]⟩,
     ⟨(some 50), .call 12 [(.t 48), (.t 49)], none, [48, 49]⟩,
     ⟨(some 51), .mv (.t 50), none, [50]⟩,
     ⟨(some 52), .call 9 [], (some (51, true)), [51]⟩,
     ⟨(some 53), .pick (.t 51) (.t 52) (.c (.bool false)), none, [51, 52]⟩,
     ⟨(some 2), .mv (.t 53), none, [53]⟩])
  (RC.ret))))))))
theorem c3_ok : resK Tryd.prog Tryd.f3.ntmps (Tryd.f3.body.getD .skip) = c3 := by kernel_rfl
theorem c3_res : resR Tryd.prog Tryd.f3.ntmps Tryd.f3.results.toList = [.t 2] := by kernel_rfl
theorem c3_ctr {args : List V} {h : Heap} {K : V → Heap → Prop} (hl : Nat.ble args.length 54 = true) (H : wpC Tryd.prog c3 (RF.ofL args) h fun e r h' => e.ends ∧ ∃ vs, evR r h' [.t 2] = some vs ∧ K (oneOf vs) h') : Ctr Tryd.prog 3 args h K :=
  ctr_of_wp follows namesOk Tryd.func3 (c := Tryd.f3.body.getD .skip) (by kernel_rfl) (by kernel_rfl) hl c3_ok c3_res H

/-- gimlet/gimletlaw15.LexRight -/
def c4 : RC :=
  RC.seq (RC.reg [⟨(some 2), .mv (.c (.bool false)), none, []⟩])
  (RC.seq (RC.reg [⟨(some 3), .mv (.t 0), none, [0]⟩,
     ⟨(some 4), .len .str (.t 3), none, [3]⟩,
     ⟨(some 5), .bin (.int .gtr) (.t 4) (.c (.int .i64 3000)), none, [4]⟩,
     ⟨(some 6), .mv (.t 5), none, [5]⟩,
     ⟨(some 7), .mv (.t 0), (some (6, false)), [0, 6]⟩,
     ⟨(some 8), .call 13 [(.t 7)], (some (6, false)), [7, 6]⟩,
     ⟨(some 9), .mv (.t 0), (some (6, false)), [0, 6]⟩,
     ⟨(some 10), .call 14 [(.t 9)], (some (6, false)), [9, 6]⟩,
     ⟨(some 11), .bin (.int .eql) (.t 8) (.t 10), (some (6, false)), [8, 10, 6]⟩,
     ⟨(some 12), .pick (.t 6) (.c (.bool true)) (.t 11), none, [6, 11]⟩,
     ⟨(some 13), .mv (.t 12), none, [12]⟩,
     ⟨(some 14), .call 9 [], (some (13, true)), [13]⟩,
     ⟨(some 15), .pick (.t 13) (.t 14) (.c (.bool false)), none, [13, 14]⟩,
     ⟨(some 2), .mv (.t 15), none, [15]⟩])
  (RC.ret))
theorem c4_ok : resK Tryd.prog Tryd.f4.ntmps (Tryd.f4.body.getD .skip) = c4 := by kernel_rfl
theorem c4_res : resR Tryd.prog Tryd.f4.ntmps Tryd.f4.results.toList = [.t 2] := by kernel_rfl
theorem c4_ctr {args : List V} {h : Heap} {K : V → Heap → Prop} (hl : Nat.ble args.length 16 = true) (H : wpC Tryd.prog c4 (RF.ofL args) h fun e r h' => e.ends ∧ ∃ vs, evR r h' [.t 2] = some vs ∧ K (oneOf vs) h') : Ctr Tryd.prog 4 args h K :=
  ctr_of_wp follows namesOk Tryd.func4 (c := Tryd.f4.body.getD .skip) (by kernel_rfl) (by kernel_rfl) hl c4_ok c4_res H

/-- gimlet/gimletlaw15.LexLong -/
def c5 : RC :=
  RC.seq (RC.reg [⟨(some 4), .mv (.c (.bool false)), none, []⟩])
  (RC.seq (RC.reg [⟨(some 10), .mv (.t 0), none, [0]⟩,
     ⟨(some 11), .call 15 [(.t 10), (.c (.int .i64 5))], none, [10]⟩,
     ⟨(some 12), .bin (.int .sub) (.t 11) (.c (.int .i64 2)), none, [11]⟩,
     ⟨(some 0), .mv (.t 12), none, [12]⟩])
  (RC.seq (RC.reg [⟨(some 5), .mv (.c (.str [])), none, []⟩])
  (RC.seq (RC.seq (RC.reg [⟨(some 13), .mv (.t 1), none, [1]⟩,
      ⟨(some 14), .call 15 [(.t 13), (.c (.int .i64 5))], none, [13]⟩])
   (RC.block 0 (RC.seq (RC.reg [⟨(some 16), .bin (.int .eql) (.t 14) (.c (.int .i64 0)), none, [14]⟩,
       ⟨(some 15), .mv (.t 16), none, [16]⟩])
    (RC.cond (.t 15)
     (RC.reg [⟨(some 17), .mv (.t 0), none, [0]⟩,
        ⟨(some 18), .bin (.int .add) (.c (.int .i64 65536)) (.t 17), none, [17]⟩,
        ⟨(some 19), .bin (.int .sub) (.t 18) (.c (.int .i64 1)), none, [18]⟩,
        ⟨(some 20), .call 16 [(.c (.str [32])), (.t 19)], none, [19]⟩,
        ⟨(some 21), .bin (.str .add) (.t 20) (.c (.str [97])), none, [20]⟩,
        ⟨(some 5), .mv (.t 21), none, [21]⟩])
     (RC.seq (RC.reg [⟨(some 23), .bin (.int .eql) (.t 14) (.c (.int .i64 1)), none, [14]⟩,
         ⟨(some 22), .mv (.t 23), none, [23]⟩])
      (RC.cond (.t 22)
       (RC.reg [⟨(some 24), .mv (.t 0), none, [0]⟩,
          ⟨(some 25), .bin (.int .add) (.c (.int .i64 64)) (.t 24), none, [24]⟩,
          ⟨(some 26), .call 16 [(.c (.str [97])), (.t 25)], none, [25]⟩,
          ⟨(some 5), .mv (.t 26), none, [26]⟩])
       (RC.seq (RC.reg [⟨(some 28), .bin (.int .eql) (.t 14) (.c (.int .i64 2)), none, [14]⟩,
           ⟨(some 27), .mv (.t 28), none, [28]⟩])
        (RC.cond (.t 27)
         (RC.reg [⟨(some 29), .mv (.t 0), none, [0]⟩,
            ⟨(some 30), .bin (.int .add) (.c (.int .i64 64)) (.t 29), none, [29]⟩,
            ⟨(some 31), .call 16 [(.c (.str [65])), (.t 30)], none, [30]⟩,
            ⟨(some 5), .mv (.t 31), none, [31]⟩])
         (RC.seq (RC.reg [⟨(some 33), .bin (.int .eql) (.t 14) (.c (.int .i64 3)), none, [14]⟩,
             ⟨(some 32), .mv (.t 33), none, [33]⟩])
          (RC.cond (.t 32)
           (RC.reg [⟨(some 34), .mv (.t 0), none, [0]⟩,
              ⟨(some 35), .bin (.int .add) (.c (.int .i64 64)) (.t 34), none, [34]⟩,
              ⟨(some 36), .call 16 [(.c (.str [97])), (.t 35)], none, [35]⟩,
              ⟨(some 37), .bin (.str .add) (.c (.str [39])) (.t 36), none, [36]⟩,
              ⟨(some 5), .mv (.t 37), none, [37]⟩])
           (RC.seq (RC.reg [⟨(some 39), .bin (.int .eql) (.t 14) (.c (.int .i64 4)), none, [14]⟩,
               ⟨(some 38), .mv (.t 39), none, [39]⟩])
            (RC.cond (.t 38)
             (RC.reg [⟨(some 40), .mv (.t 0), none, [0]⟩,
                ⟨(some 41), .bin (.int .add) (.c (.int .i64 4096)) (.t 40), none, [40]⟩,
                ⟨(some 42), .call 16 [(.c (.str [92, 48, 48, 49])), (.t 41)], none, [41]⟩,
                ⟨(some 43), .bin (.str .add) (.c (.str [34])) (.t 42), none, [42]⟩,
                ⟨(some 44), .bin (.str .add) (.t 43) (.c (.str [34])), none, [43]⟩,
                ⟨(some 5), .mv (.t 44), none, [44]⟩])
             (RC.skip)))))))))))))
  (RC.seq (RC.reg [⟨(some 46), .mv (.t 5), none, [5]⟩,
     ⟨(some 47), .call 10 [(.t 46)], none, [46]⟩,
     ⟨(some 45), .mv (.t 47), none, [47]⟩,
     ⟨(some 48), .ext (.t 45) 0, none, [45]⟩,
     ⟨(some 49), .ext (.t 45) 1, none, [45]⟩,
     ⟨(some 7), .new [(.int .i64 0), (.int .i64 0)], none, []⟩,
     ⟨(some 6), .mv (.t 48), none, [48]⟩,
     ⟨none, .st 2 (.t 7) (.t 49), none, [7, 49]⟩])
  (RC.seq (RC.reg [⟨(some 51), .mv (.t 5), none, [5]⟩,
     ⟨(some 52), .call 11 [(.t 51)], none, [51]⟩,
     ⟨(some 50), .mv (.t 52), none, [52]⟩,
     ⟨(some 53), .ext (.t 50) 0, none, [50]⟩,
     ⟨(some 54), .ext (.t 50) 1, none, [50]⟩,
     ⟨(some 9), .new [(.int .i64 0), (.int .i64 0)], none, []⟩,
     ⟨(some 8), .mv (.t 53), none, [53]⟩,
     ⟨none, .st 2 (.t 9) (.t 54), none, [9, 54]⟩])
  (RC.seq (RC.reg [⟨(some 55), .mv (.t 6), none, [6]⟩,
     ⟨(some 56), .mv (.t 8), none, [8]⟩,
     ⟨(some 57), .call 12 [(.t 55), (.t 56)], none, [55, 56]⟩,
     ⟨(some 58), .mv (.t 57), none, [57]⟩,
     ⟨(some 59), .ldn 2 (.t 7), (some (58, true)), [7, 58]⟩,
     ⟨(some 60), .ldn 2 (.t 9), (some (58, true)), [9, 58]⟩,
     ⟨(some 61), .bin (.other .eql 26) (.t 59) (.t 60), (some (58, true)), [59, 60, 58]⟩,
     ⟨(some 62), .pick (.t 58) (.t 61) (.c (.bool false)), none, [58, 61]⟩,
     ⟨(some 63), .mv (.t 62), none, [62]⟩,
     ⟨(some 64), .fa 0 (.t 7), (some (63, true)), [7, 63]⟩,
     ⟨(some 65), .ld1 (.t 64), (some (63, true)), [64, 63]⟩,
     ⟨(some 66), .bin (.int .neq) (.t 65) (.c (.int .i64 0)), (some (63, true)), [65, 63]⟩,
     ⟨(some 67), .mv (.t 0), (some (63, true)), [0, 63]⟩,
     ⟨(some 68), .bin (.int .gtr) (.t 67) (.c (.int .i64 0)), (some (63, true)), [67, 63]⟩,
     ⟨(some 69), .bin (.eqb false) (.t 66) (.t 68), (some (63, true)), [66, 68, 63]⟩,
     ⟨(some 70), .pick (.t 63) (.t 69) (.c (.bool false)), none, [63, 69]⟩,
     ⟨(some 71), .mv (.t 70), none, [70]⟩,
     ⟨(some 72), .call 9 [], (some (71, true)), [71]⟩,
     ⟨(some 73), .pick (.t 71) (.t 72) (.c (.bool false)), none, [71, 72]⟩,
     ⟨(some 4), .mv (.t 73), none, [73]⟩])
  (RC.ret)))))))
theorem c5_ok : resK Tryd.prog Tryd.f5.ntmps (Tryd.f5.body.getD .skip) = c5 := by kernel_rfl
theorem c5_res : resR Tryd.prog Tryd.f5.ntmps Tryd.f5.results.toList = [.t 4] := by kernel_rfl
theorem c5_ctr {args : List V} {h : Heap} {K : V → Heap → Prop} (hl : Nat.ble args.length 74 = true) (H : wpC Tryd.prog c5 (RF.ofL args) h fun e r h' => e.ends ∧ ∃ vs, evR r h' [.t 4] = some vs ∧ K (oneOf vs) h') : Ctr Tryd.prog 5 args h K :=
  ctr_of_wp follows namesOk Tryd.func5 (c := Tryd.f5.body.getD .skip) (by kernel_rfl) (by kernel_rfl) hl c5_ok c5_res H

/-- gimlet/gimletlaw15.LexWrites -/
def c6 : RC :=
  RC.seq (RC.reg [⟨(some 2), .mv (.c (.bool false)), none, []⟩])
  (RC.seq (RC.seq (RC.reg [⟨(some 8), .mv (.t 0), none, [0]⟩,
      ⟨(some 9), .call 17 [(.t 8), (.c (.int .i64 200))], none, [8]⟩])
   (RC.cond (.t 9)
    (RC.seq (RC.reg [⟨(some 10), .call 9 [], none, []⟩,
        ⟨(some 2), .mv (.t 10), none, [10]⟩])
     (RC.ret))
    (RC.skip)))
  (RC.seq (RC.reg [⟨(some 11), .bsl 0 4 [(.int .i64 0), (.int .i64 0), (.int .i64 0), (.str [])] [], none, []⟩,
     ⟨(some 12), .mv (.t 0), none, [0]⟩,
     ⟨(some 13), .app 4 (.t 11) (.t 12), none, [11, 12]⟩,
     ⟨(some 3), .mv (.t 13), none, [13]⟩])
  (RC.seq (RC.reg [⟨(some 15), .mv (.t 3), none, [3]⟩,
     ⟨(some 16), .call 18 [(.t 15)], none, [15]⟩,
     ⟨(some 14), .mv (.t 16), none, [16]⟩,
     ⟨(some 17), .ext (.t 14) 0, none, [14]⟩,
     ⟨(some 18), .ext (.t 14) 1, none, [14]⟩,
     ⟨(some 4), .mv (.t 17), none, [17]⟩,
     ⟨(some 5), .mv (.t 18), none, [18]⟩])
  (RC.seq (RC.reg [⟨(some 20), .mv (.t 0), none, [0]⟩,
     ⟨(some 21), .call 19 [(.t 20)], none, [20]⟩,
     ⟨(some 19), .mv (.t 21), none, [21]⟩,
     ⟨(some 22), .ext (.t 19) 0, none, [19]⟩,
     ⟨(some 23), .ext (.t 19) 1, none, [19]⟩,
     ⟨(some 6), .mv (.t 22), none, [22]⟩,
     ⟨(some 7), .mv (.t 23), none, [23]⟩])
  (RC.seq (RC.reg [⟨(some 24), .mv (.t 4), none, [4]⟩,
     ⟨(some 25), .mv (.t 6), none, [6]⟩,
     ⟨(some 26), .bin (.str .eql) (.t 24) (.t 25), none, [24, 25]⟩,
     ⟨(some 27), .mv (.t 26), none, [26]⟩,
     ⟨(some 28), .mv (.t 5), (some (27, true)), [5, 27]⟩,
     ⟨(some 29), .mv (.t 7), (some (27, true)), [7, 27]⟩,
     ⟨(some 30), .bin (.int .eql) (.t 28) (.t 29), (some (27, true)), [28, 29, 27]⟩,
     ⟨(some 31), .pick (.t 27) (.t 30) (.c (.bool false)), none, [27, 30]⟩,
     ⟨(some 32), .mv (.t 31), none, [31]⟩,
     ⟨(some 33), .mv (.t 3), (some (32, true)), [3, 32]⟩,
     ⟨(some 34), .mv (.t 0), (some (32, true)), [0, 32]⟩,
     ⟨(some 35), .call 12 [(.t 33), (.t 34)], (some (32, true)), [33, 34, 32]⟩,
     ⟨(some 36), .pick (.t 32) (.t 35) (.c (.bool false)), none, [32, 35]⟩,
     ⟨(some 37), .mv (.t 36), none, [36]⟩,
     ⟨(some 38), .call 9 [], (some (37, true)), [37]⟩,
     ⟨(some 39), .pick (.t 37) (.t 38) (.c (.bool false)), none, [37, 38]⟩,
     ⟨(some 2), .mv (.t 39), none, [39]⟩])
  (RC.ret))))))
theorem c6_ok : resK Tryd.prog Tryd.f6.ntmps (Tryd.f6.body.getD .skip) = c6 := by kernel_rfl
theorem c6_res : resR Tryd.prog Tryd.f6.ntmps Tryd.f6.results.toList = [.t 2] := by kernel_rfl
theorem c6_ctr {args : List V} {h : Heap} {K : V → Heap → Prop} (hl : Nat.ble args.length 40 = true) (H : wpC Tryd.prog c6 (RF.ofL args) h fun e r h' => e.ends ∧ ∃ vs, evR r h' [.t 2] = some vs ∧ K (oneOf vs) h') : Ctr Tryd.prog 6 args h K :=
  ctr_of_wp follows namesOk Tryd.func6 (c := Tryd.f6.body.getD .skip) (by kernel_rfl) (by kernel_rfl) hl c6_ok c6_res H

/-- gimlet/gimletlaw15.LexKnown -/
def c7 : RC :=
  RC.seq (RC.reg [⟨(some 0), .mv (.c (.bool false)), none, []⟩])
  (RC.seq (RC.reg [⟨(some 6), .build [(.int .i64 0), (.int .i64 0), (.int .i64 0), (.str [])] [(0, 1, (.c (.int .i64 6))), (3, 1, (.c (.str [108, 101, 116])))], none, []⟩,
     ⟨(some 7), .build [(.int .i64 0), (.int .i64 0), (.int .i64 0), (.str [])] [(0, 1, (.c (.int .i64 3))), (3, 1, (.c (.str [120]))), (2, 1, (.c (.int .i64 4)))], none, []⟩,
     ⟨(some 8), .build [(.int .i64 0), (.int .i64 0), (.int .i64 0), (.str [])] [(0, 1, (.c (.int .i64 7))), (3, 1, (.c (.str [61]))), (2, 1, (.c (.int .i64 6)))], none, []⟩,
     ⟨(some 9), .build [(.int .i64 0), (.int .i64 0), (.int .i64 0), (.str [])] [(0, 1, (.c (.int .i64 2))), (3, 1, (.c (.str [97, 10]))), (2, 1, (.c (.int .i64 8)))], none, []⟩,
     ⟨(some 10), .build [(.int .i64 0), (.int .i64 0), (.int .i64 0), (.str [])] [(0, 1, (.c (.int .i64 6))), (3, 1, (.c (.str [105, 110]))), (2, 1, (.c (.int .i64 26)))], none, []⟩,
     ⟨(some 11), .build [(.int .i64 0), (.int .i64 0), (.int .i64 0), (.str [])] [(0, 1, (.c (.int .i64 3))), (3, 1, (.c (.str [120]))), (2, 1, (.c (.int .i64 29)))], none, []⟩,
     ⟨(some 12), .bsl 6 4 [(.int .i64 0), (.int .i64 0), (.int .i64 0), (.str [])] [(0, 4, (.t 6)), (4, 4, (.t 7)), (8, 4, (.t 8)), (12, 4, (.t 9)), (16, 4, (.t 10)), (20, 4, (.t 11))], none, [6, 7, 8, 9, 10, 11]⟩,
     ⟨(some 13), .call 20 [(.c (.str [108, 101, 116, 32, 120, 32, 61, 32, 34, 97, 92, 110, 34, 32, 40, 42, 32, 40, 42, 32, 42, 41, 32, 42, 41, 32, 105, 110, 32, 120])), (.t 12)], none, [12]⟩,
     ⟨(some 1), .mv (.t 13), none, [13]⟩])
  (RC.seq (RC.reg [⟨(some 14), .build [(.int .i64 0), (.int .i64 0), (.int .i64 0), (.str [])] [(0, 1, (.c (.int .i64 1))), (1, 1, (.c (.int .i64 (-1))))], none, []⟩,
     ⟨(some 15), .bsl 1 4 [(.int .i64 0), (.int .i64 0), (.int .i64 0), (.str [])] [(0, 4, (.t 14))], none, [14]⟩,
     ⟨(some 16), .call 20 [(.c (.str [50, 49, 52, 55, 52, 56, 51, 54, 52, 55])), (.t 15)], none, [15]⟩,
     ⟨(some 17), .mv (.t 16), none, [16]⟩,
     ⟨(some 18), .call 21 [(.c (.str [50, 49, 52, 55, 52, 56, 51, 54, 52, 56])), (.c (.int .i64 254)), (.c (.int .i64 0))], (some (17, true)), [17]⟩,
     ⟨(some 19), .pick (.t 17) (.t 18) (.c (.bool false)), none, [17, 18]⟩,
     ⟨(some 20), .mv (.t 19), none, [19]⟩,
     ⟨(some 21), .call 21 [(.c (.str [34, 97])), (.c (.int .i64 252)), (.c (.int .i64 0))], (some (20, true)), [20]⟩,
     ⟨(some 22), .pick (.t 20) (.t 21) (.c (.bool false)), none, [20, 21]⟩,
     ⟨(some 23), .mv (.t 22), none, [22]⟩,
     ⟨(some 24), .call 21 [(.c (.str [40, 42, 32, 97])), (.c (.int .i64 253)), (.c (.int .i64 0))], (some (23, true)), [23]⟩,
     ⟨(some 25), .pick (.t 23) (.t 24) (.c (.bool false)), none, [23, 24]⟩,
     ⟨(some 26), .mv (.t 25), none, [25]⟩,
     ⟨(some 27), .call 21 [(.c (.str [34, 92, 57, 34])), (.c (.int .i64 252)), (.c (.int .i64 0))], (some (26, true)), [26]⟩,
     ⟨(some 28), .pick (.t 26) (.t 27) (.c (.bool false)), none, [26, 27]⟩,
     ⟨(some 2), .mv (.t 28), none, [28]⟩])
  (RC.seq (RC.reg [⟨(some 29), .bsl 4 1 [(.int .u8 0)] [(0, 1, (.c (.int .u8 97))), (1, 1, (.c (.int .u8 195))), (2, 1, (.c (.int .u8 169))), (3, 1, (.c (.int .u8 255)))], none, []⟩,
     ⟨(some 30), .cv .str (.t 29), none, [29]⟩,
     ⟨(some 31), .call 13 [(.t 30)], none, [30]⟩,
     ⟨(some 32), .bin (.int .eql) (.t 31) (.c (.int .i64 3)), none, [31]⟩,
     ⟨(some 33), .mv (.t 32), none, [32]⟩,
     ⟨(some 34), .bsl 3 1 [(.int .u8 0)] [(0, 1, (.c (.int .u8 237))), (1, 1, (.c (.int .u8 160))), (2, 1, (.c (.int .u8 128)))], (some (33, true)), [33]⟩,
     ⟨(some 35), .cv .str (.t 34), (some (33, true)), [34, 33]⟩,
     ⟨(some 36), .call 13 [(.t 35)], (some (33, true)), [35, 33]⟩,
     ⟨(some 37), .bin (.int .eql) (.t 36) (.c (.int .i64 0)), (some (33, true)), [36, 33]⟩,
     ⟨(some 38), .pick (.t 33) (.t 37) (.c (.bool false)), none, [33, 37]⟩,
     ⟨(some 3), .mv (.t 38), none, [38]⟩])
  (RC.seq (RC.reg [⟨(some 40), .bsl 2 1 [(.int .u8 0)] [(0, 1, (.c (.int .u8 195))), (1, 1, (.c (.int .u8 169)))], none, []⟩,
     ⟨(some 41), .cv .str (.t 40), none, [40]⟩,
     ⟨(some 42), .build [(.int .i64 0), (.int .i64 0), (.int .i64 0), (.str [])] [(0, 1, (.c (.int .i64 2))), (3, 1, (.t 41))], none, [41]⟩,
     ⟨(some 43), .build [(.int .i64 0), (.int .i64 0), (.int .i64 0), (.str [])] [(0, 1, (.c (.int .i64 1))), (1, 1, (.c (.int .i64 (-1))))], none, []⟩,
     ⟨(some 44), .bsl 2 4 [(.int .i64 0), (.int .i64 0), (.int .i64 0), (.str [])] [(0, 4, (.t 42)), (4, 4, (.t 43))], none, [42, 43]⟩,
     ⟨(some 45), .call 18 [(.t 44)], none, [44]⟩,
     ⟨(some 39), .mv (.t 45), none, [45]⟩,
     ⟨(some 46), .ext (.t 39) 0, none, [39]⟩,
     ⟨(some 47), .ext (.t 39) 1, none, [39]⟩,
     ⟨(some 4), .mv (.t 46), none, [46]⟩,
     ⟨(some 5), .mv (.t 47), none, [47]⟩])
  (RC.seq (RC.reg [⟨(some 48), .call 9 [], none, []⟩,
     ⟨(some 49), .mv (.t 48), none, [48]⟩,
     ⟨(some 50), .mv (.t 1), (some (49, true)), [1, 49]⟩,
     ⟨(some 51), .pick (.t 49) (.t 50) (.c (.bool false)), none, [49, 50]⟩,
     ⟨(some 52), .mv (.t 51), none, [51]⟩,
     ⟨(some 53), .mv (.t 2), (some (52, true)), [2, 52]⟩,
     ⟨(some 54), .pick (.t 52) (.t 53) (.c (.bool false)), none, [52, 53]⟩,
     ⟨(some 55), .mv (.t 54), none, [54]⟩,
     ⟨(some 56), .mv (.t 3), (some (55, true)), [3, 55]⟩,
     ⟨(some 57), .pick (.t 55) (.t 56) (.c (.bool false)), none, [55, 56]⟩,
     ⟨(some 58), .mv (.t 57), none, [57]⟩,
     ⟨(some 59), .mv (.t 5), (some (58, true)), [5, 58]⟩,
     ⟨(some 60), .bin (.int .eql) (.t 59) (.c (.int .i64 0)), (some (58, true)), [59, 58]⟩,
     ⟨(some 61), .pick (.t 58) (.t 60) (.c (.bool false)), none, [58, 60]⟩,
     ⟨(some 62), .mv (.t 61), none, [61]⟩,
     ⟨(some 63), .mv (.t 4), (some (62, true)), [4, 62]⟩,
     ⟨(some 64), .bin (.str .eql) (.t 63) (.c (.str [34, 92, 49, 57, 53, 92, 49, 54, 57, 34, 32, 50, 49, 52, 55, 52, 56, 51, 54, 52, 55])), (some (62, true)), [63, 62]⟩,
     ⟨(some 65), .pick (.t 62) (.t 64) (.c (.bool false)), none, [62, 64]⟩,
     ⟨(some 0), .mv (.t 65), none, [65]⟩])
  (RC.ret))))))
theorem c7_ok : resK Tryd.prog Tryd.f7.ntmps (Tryd.f7.body.getD .skip) = c7 := by kernel_rfl
theorem c7_res : resR Tryd.prog Tryd.f7.ntmps Tryd.f7.results.toList = [.t 0] := by kernel_rfl
theorem c7_ctr {args : List V} {h : Heap} {K : V → Heap → Prop} (hl : Nat.ble args.length 66 = true) (H : wpC Tryd.prog c7 (RF.ofL args) h fun e r h' => e.ends ∧ ∃ vs, evR r h' [.t 0] = some vs ∧ K (oneOf vs) h') : Ctr Tryd.prog 7 args h K :=
  ctr_of_wp follows namesOk Tryd.func7 (c := Tryd.f7.body.getD .skip) (by kernel_rfl) (by kernel_rfl) hl c7_ok c7_res H

/-- gimlet/gimletlaw15.LexBack -/
def c8 : RC :=
  RC.seq (RC.reg [⟨(some 4), .mv (.c (.bool false)), none, []⟩])
  (RC.seq (RC.reg [⟨(some 12), .call 7 [], none, []⟩,
     ⟨(some 5), .mv (.t 12), none, [12]⟩])
  (RC.seq (RC.seq (RC.reg [⟨(some 13), .mv (.t 0), none, [0]⟩,
      ⟨(some 14), .call 17 [(.t 13), (.c (.int .i64 200))], none, [13]⟩,
      ⟨(some 15), .mv (.t 14), none, [14]⟩,
      ⟨(some 16), .mv (.t 1), (some (15, false)), [1, 15]⟩,
      ⟨(some 17), .len .str (.t 16), (some (15, false)), [16, 15]⟩,
      ⟨(some 18), .bin (.int .gtr) (.t 17) (.c (.int .i64 3000)), (some (15, false)), [17, 15]⟩,
      ⟨(some 19), .pick (.t 15) (.c (.bool true)) (.t 18), none, [15, 18]⟩])
   (RC.cond (.t 19)
    (RC.seq (RC.reg [⟨(some 20), .mv (.t 5), none, [5]⟩,
        ⟨(some 4), .mv (.t 20), none, [20]⟩])
     (RC.ret))
    (RC.skip)))
  (RC.seq (RC.reg [⟨(some 22), .mv (.t 0), none, [0]⟩,
     ⟨(some 23), .call 18 [(.t 22)], none, [22]⟩,
     ⟨(some 21), .mv (.t 23), none, [23]⟩,
     ⟨(some 24), .ext (.t 21) 0, none, [21]⟩,
     ⟨(some 25), .ext (.t 21) 1, none, [21]⟩,
     ⟨(some 6), .mv (.t 24), none, [24]⟩,
     ⟨(some 7), .mv (.t 25), none, [25]⟩])
  (RC.seq (RC.seq (RC.reg [⟨(some 26), .mv (.t 7), none, [7]⟩,
      ⟨(some 27), .bin (.int .eql) (.t 26) (.c (.int .i64 0)), none, [26]⟩,
      ⟨(some 28), .mv (.t 27), none, [27]⟩,
      ⟨(some 29), .mv (.t 6), (some (28, true)), [6, 28]⟩,
      ⟨(some 30), .len .str (.t 29), (some (28, true)), [29, 28]⟩,
      ⟨(some 31), .bin (.int .gtr) (.t 30) (.c (.int .i64 65536)), (some (28, true)), [30, 28]⟩,
      ⟨(some 32), .pick (.t 28) (.t 31) (.c (.bool false)), none, [28, 31]⟩])
   (RC.cond (.t 32)
    (RC.reg [⟨(some 33), .mv (.t 5), none, [5]⟩,
       ⟨(some 34), .mv (.t 33), none, [33]⟩,
       ⟨(some 35), .mv (.t 6), (some (34, true)), [6, 34]⟩,
       ⟨(some 36), .call 21 [(.t 35), (.c (.int .i64 3)), (.c (.int .i64 0))], (some (34, true)), [35, 34]⟩,
       ⟨(some 37), .pick (.t 34) (.t 36) (.c (.bool false)), none, [34, 36]⟩,
       ⟨(some 5), .mv (.t 37), none, [37]⟩])
    (RC.seq (RC.reg [⟨(some 38), .mv (.t 7), none, [7]⟩,
        ⟨(some 39), .bin (.int .eql) (.t 38) (.c (.int .i64 0)), none, [38]⟩,
        ⟨(some 40), .mv (.t 39), none, [39]⟩,
        ⟨(some 41), .mv (.t 6), (some (40, true)), [6, 40]⟩,
        ⟨(some 42), .mv (.t 0), (some (40, true)), [0, 40]⟩,
        ⟨(some 43), .call 22 [(.t 41), (.t 42)], (some (40, true)), [41, 42, 40]⟩,
        ⟨(some 44), .un .not (.t 43), (some (40, true)), [43, 40]⟩,
        ⟨(some 45), .pick (.t 40) (.t 44) (.c (.bool false)), none, [40, 44]⟩])
     (RC.cond (.t 45)
      (RC.seq (RC.reg [⟨(some 4), .mv (.c (.bool false)), none, []⟩])
       (RC.ret))
      (RC.skip)))))
  (RC.seq (RC.reg [⟨(some 47), .mv (.t 1), none, [1]⟩,
     ⟨(some 48), .call 10 [(.t 47)], none, [47]⟩,
     ⟨(some 46), .mv (.t 48), none, [48]⟩,
     ⟨(some 49), .ext (.t 46) 0, none, [46]⟩,
     ⟨(some 50), .ext (.t 46) 1, none, [46]⟩,
     ⟨(some 9), .new [(.int .i64 0), (.int .i64 0)], none, []⟩,
     ⟨(some 8), .mv (.t 49), none, [49]⟩,
     ⟨none, .st 2 (.t 9) (.t 50), none, [9, 50]⟩])
  (RC.seq (RC.seq (RC.reg [⟨(some 51), .fa 0 (.t 9), none, [9]⟩,
      ⟨(some 52), .ld1 (.t 51), none, [51]⟩,
      ⟨(some 53), .bin (.int .neq) (.t 52) (.c (.int .i64 0)), none, [52]⟩])
   (RC.cond (.t 53)
    (RC.seq (RC.reg [⟨(some 54), .mv (.t 5), none, [5]⟩,
        ⟨(some 55), .mv (.t 54), none, [54]⟩,
        ⟨(some 56), .mv (.t 8), (some (55, true)), [8, 55]⟩,
        ⟨(some 57), .len .slice (.t 56), (some (55, true)), [56, 55]⟩,
        ⟨(some 58), .bin (.int .eql) (.t 57) (.c (.int .i64 0)), (some (55, true)), [57, 55]⟩,
        ⟨(some 59), .pick (.t 55) (.t 58) (.c (.bool false)), none, [55, 58]⟩,
        ⟨(some 60), .mv (.t 59), none, [59]⟩,
        ⟨(some 61), .fa 1 (.t 9), (some (60, true)), [9, 60]⟩,
        ⟨(some 62), .ld1 (.t 61), (some (60, true)), [61, 60]⟩,
        ⟨(some 63), .bin (.int .geq) (.t 62) (.c (.int .i64 0)), (some (60, true)), [62, 60]⟩,
        ⟨(some 64), .pick (.t 60) (.t 63) (.c (.bool false)), none, [60, 63]⟩,
        ⟨(some 65), .mv (.t 64), none, [64]⟩,
        ⟨(some 66), .fa 1 (.t 9), (some (65, true)), [9, 65]⟩,
        ⟨(some 67), .ld1 (.t 66), (some (65, true)), [66, 65]⟩,
        ⟨(some 68), .mv (.t 1), (some (65, true)), [1, 65]⟩,
        ⟨(some 69), .len .str (.t 68), (some (65, true)), [68, 65]⟩,
        ⟨(some 70), .bin (.int .leq) (.t 67) (.t 69), (some (65, true)), [67, 69, 65]⟩,
        ⟨(some 71), .pick (.t 65) (.t 70) (.c (.bool false)), none, [65, 70]⟩,
        ⟨(some 4), .mv (.t 71), none, [71]⟩])
     (RC.ret))
    (RC.skip)))
  (RC.seq (RC.reg [⟨(some 73), .mv (.t 8), none, [8]⟩,
     ⟨(some 74), .call 18 [(.t 73)], none, [73]⟩,
     ⟨(some 72), .mv (.t 74), none, [74]⟩,
     ⟨(some 75), .ext (.t 72) 0, none, [72]⟩,
     ⟨(some 76), .ext (.t 72) 1, none, [72]⟩,
     ⟨(some 10), .mv (.t 75), none, [75]⟩,
     ⟨(some 11), .mv (.t 76), none, [76]⟩])
  (RC.seq (RC.reg [⟨(some 77), .mv (.t 5), none, [5]⟩,
     ⟨(some 78), .mv (.t 77), none, [77]⟩,
     ⟨(some 79), .mv (.t 11), (some (78, true)), [11, 78]⟩,
     ⟨(some 80), .bin (.int .eql) (.t 79) (.c (.int .i64 0)), (some (78, true)), [79, 78]⟩,
     ⟨(some 81), .pick (.t 78) (.t 80) (.c (.bool false)), none, [78, 80]⟩,
     ⟨(some 82), .mv (.t 81), none, [81]⟩,
     ⟨(some 83), .mv (.t 10), (some (82, true)), [10, 82]⟩,
     ⟨(some 84), .mv (.t 8), (some (82, true)), [8, 82]⟩,
     ⟨(some 85), .call 22 [(.t 83), (.t 84)], (some (82, true)), [83, 84, 82]⟩,
     ⟨(some 86), .pick (.t 82) (.t 85) (.c (.bool false)), none, [82, 85]⟩,
     ⟨(some 4), .mv (.t 86), none, [86]⟩])
  (RC.ret)))))))))
theorem c8_ok : resK Tryd.prog Tryd.f8.ntmps (Tryd.f8.body.getD .skip) = c8 := by kernel_rfl
theorem c8_res : resR Tryd.prog Tryd.f8.ntmps Tryd.f8.results.toList = [.t 4] := by kernel_rfl
theorem c8_ctr {args : List V} {h : Heap} {K : V → Heap → Prop} (hl : Nat.ble args.length 87 = true) (H : wpC Tryd.prog c8 (RF.ofL args) h fun e r h' => e.ends ∧ ∃ vs, evR r h' [.t 4] = some vs ∧ K (oneOf vs) h') : Ctr Tryd.prog 8 args h K :=
  ctr_of_wp follows namesOk Tryd.func8 (c := Tryd.f8.body.getD .skip) (by kernel_rfl) (by kernel_rfl) hl c8_ok c8_res H

/-- gimlet/gimletlaw15.awake -/
def c9 : RC :=
  RC.seq (RC.reg [⟨(some 0), .mv (.c (.bool false)), none, []⟩])
  (RC.seq (RC.reg [⟨(some 1), .build [(.int .i64 0), (.int .i64 0), (.int .i64 0), (.str [])] [(0, 1, (.c (.int .i64 5))), (3, 1, (.c (.str [97])))], none, []⟩,
     ⟨(some 2), .build [(.int .i64 0), (.int .i64 0), (.int .i64 0), (.str [])] [(0, 1, (.c (.int .i64 7))), (3, 1, (.c (.str [45, 62]))), (2, 1, (.c (.int .i64 3)))], none, []⟩,
     ⟨(some 3), .build [(.int .i64 0), (.int .i64 0), (.int .i64 0), (.str [])] [(0, 1, (.c (.int .i64 4))), (3, 1, (.c (.str [66]))), (2, 1, (.c (.int .i64 6)))], none, []⟩,
     ⟨(some 4), .bsl 3 4 [(.int .i64 0), (.int .i64 0), (.int .i64 0), (.str [])] [(0, 4, (.t 1)), (4, 4, (.t 2)), (8, 4, (.t 3))], none, [1, 2, 3]⟩,
     ⟨(some 5), .call 20 [(.c (.str [39, 97, 32, 45, 62, 32, 66])), (.t 4)], none, [4]⟩,
     ⟨(some 6), .mv (.t 5), none, [5]⟩,
     ⟨(some 7), .call 21 [(.c (.str [97, 32, 35, 32, 98])), (.c (.int .i64 251)), (.c (.int .i64 2))], (some (6, true)), [6]⟩,
     ⟨(some 8), .pick (.t 6) (.t 7) (.c (.bool false)), none, [6, 7]⟩,
     ⟨(some 0), .mv (.t 8), none, [8]⟩])
  (RC.ret))
theorem c9_ok : resK Tryd.prog Tryd.f9.ntmps (Tryd.f9.body.getD .skip) = c9 := by kernel_rfl
theorem c9_res : resR Tryd.prog Tryd.f9.ntmps Tryd.f9.results.toList = [.t 0] := by kernel_rfl
theorem c9_ctr {args : List V} {h : Heap} {K : V → Heap → Prop} (hl : Nat.ble args.length 9 = true) (H : wpC Tryd.prog c9 (RF.ofL args) h fun e r h' => e.ends ∧ ∃ vs, evR r h' [.t 0] = some vs ∧ K (oneOf vs) h') : Ctr Tryd.prog 9 args h K :=
  ctr_of_wp follows namesOk Tryd.func9 (c := Tryd.f9.body.getD .skip) (by kernel_rfl) (by kernel_rfl) hl c9_ok c9_res H

/-- gimlet/gimletref15.Lex -/
def c11l1 : RC :=
  RC.seq (RC.seq (RC.reg [⟨(some 23), .mv (.t 4), none, [4]⟩,
      ⟨(some 24), .nilck (.t 23), none, [23]⟩,
      ⟨(some 25), .fa 1 (.t 24), none, [24]⟩,
      ⟨(some 26), .ld1 (.t 25), none, [25]⟩,
      ⟨(some 27), .mv (.t 0), none, [0]⟩,
      ⟨(some 28), .len .str (.t 27), none, [27]⟩,
      ⟨(some 29), .bin (.int .lss) (.t 26) (.t 28), none, [26, 28]⟩,
      ⟨(some 30), .mv (.t 29), none, [29]⟩,
      ⟨(some 31), .mv (.t 4), (some (30, true)), [4, 30]⟩,
      ⟨(some 32), .nilck (.t 31), (some (30, true)), [31, 30]⟩,
      ⟨(some 33), .fa 3 (.t 32), (some (30, true)), [32, 30]⟩,
      ⟨(some 34), .ld1 (.t 33), (some (30, true)), [33, 30]⟩,
      ⟨(some 35), .bin (.int .eql) (.t 34) (.c (.int .i64 0)), (some (30, true)), [34, 30]⟩,
      ⟨(some 36), .pick (.t 30) (.t 35) (.c (.bool false)), none, [30, 35]⟩])
   (RC.cond (.t 36)
    (RC.skip)
    (RC.exit 0)))
  (RC.seq (RC.block 1 (RC.seq (RC.reg [⟨(some 39), .mv (.t 0), none, [0]⟩,
       ⟨(some 40), .mv (.t 4), none, [4]⟩,
       ⟨(some 41), .nilck (.t 40), none, [40]⟩,
       ⟨(some 42), .fa 1 (.t 41), none, [41]⟩,
       ⟨(some 43), .ld1 (.t 42), none, [42]⟩,
       ⟨(some 44), .ixs (.t 39) (.t 43), none, [39, 43]⟩,
       ⟨(some 5), .mv (.t 44), none, [44]⟩])
    (RC.seq (RC.reg [⟨(some 45), .mv (.t 4), none, [4]⟩,
       ⟨(some 46), .mv (.t 4), none, [4]⟩,
       ⟨(some 47), .nilck (.t 46), none, [46]⟩,
       ⟨(some 48), .fa 1 (.t 47), none, [47]⟩,
       ⟨(some 49), .ld1 (.t 48), none, [48]⟩,
       ⟨(some 50), .nilck (.t 45), none, [45]⟩,
       ⟨(some 51), .fa 2 (.t 50), none, [50]⟩,
       ⟨none, .st 1 (.t 51) (.t 49), none, [51, 49]⟩])
    (RC.seq (RC.block 2 (RC.seq (RC.reg [⟨(some 55), .mv (.t 5), none, [5]⟩,
         ⟨(some 56), .call 28 [(.t 55), (.c (.int .u8 97)), (.c (.int .u8 122))], none, [55]⟩,
         ⟨(some 57), .mv (.t 56), none, [56]⟩,
         ⟨(some 58), .mv (.t 5), (some (57, false)), [5, 57]⟩,
         ⟨(some 59), .call 28 [(.t 58), (.c (.int .u8 65)), (.c (.int .u8 90))], (some (57, false)), [58, 57]⟩,
         ⟨(some 60), .pick (.t 57) (.c (.bool true)) (.t 59), none, [57, 59]⟩,
         ⟨(some 61), .mv (.t 60), none, [60]⟩,
         ⟨(some 62), .mv (.t 5), (some (61, false)), [5, 61]⟩,
         ⟨(some 63), .bin (.int .eql) (.t 62) (.c (.int .u8 95)), (some (61, false)), [62, 61]⟩,
         ⟨(some 64), .pick (.t 61) (.c (.bool true)) (.t 63), none, [61, 63]⟩,
         ⟨(some 54), .mv (.t 64), none, [64]⟩])
      (RC.cond (.t 54)
       (RC.reg [⟨(some 65), .mv (.t 4), none, [4]⟩,
          ⟨(some 66), .call 29 [(.t 65)], none, [65]⟩])
       (RC.seq (RC.reg [⟨(some 68), .mv (.t 5), none, [5]⟩,
           ⟨(some 69), .call 28 [(.t 68), (.c (.int .u8 48)), (.c (.int .u8 57))], none, [68]⟩,
           ⟨(some 67), .mv (.t 69), none, [69]⟩])
        (RC.cond (.t 67)
         (RC.reg [⟨(some 70), .mv (.t 4), none, [4]⟩,
            ⟨(some 71), .call 30 [(.t 70)], none, [70]⟩])
         (RC.seq (RC.reg [⟨(some 73), .mv (.t 5), none, [5]⟩,
             ⟨(some 74), .bin (.int .eql) (.t 73) (.c (.int .u8 39)), none, [73]⟩,
             ⟨(some 72), .mv (.t 74), none, [74]⟩])
          (RC.cond (.t 72)
           (RC.reg [⟨(some 75), .mv (.t 4), none, [4]⟩,
              ⟨(some 76), .call 31 [(.t 75)], none, [75]⟩])
           (RC.seq (RC.reg [⟨(some 78), .mv (.t 5), none, [5]⟩,
               ⟨(some 79), .bin (.int .eql) (.t 78) (.c (.int .u8 34)), none, [78]⟩,
               ⟨(some 77), .mv (.t 79), none, [79]⟩])
            (RC.cond (.t 77)
             (RC.reg [⟨(some 80), .mv (.t 4), none, [4]⟩,
                ⟨(some 81), .call 32 [(.t 80)], none, [80]⟩])
             (RC.reg [⟨(some 52), .mv (.t 4), none, [4]⟩,
                ⟨(some 53), .call 33 [(.t 52)], none, [52]⟩]))))))))))
    (RC.seq (RC.reg [⟨(some 82), .mv (.t 4), none, [4]⟩,
       ⟨(some 83), .nilck (.t 82), none, [82]⟩,
       ⟨(some 84), .fa 3 (.t 83), none, [83]⟩,
       ⟨(some 85), .ld1 (.t 84), none, [84]⟩,
       ⟨(some 86), .bin (.int .neq) (.t 85) (.c (.int .i64 0)), none, [85]⟩])
    (RC.cond (.t 86)
     (RC.exit 0)
     (RC.skip)))))))
  (RC.reg [⟨(some 37), .mv (.t 4), none, [4]⟩,
    ⟨(some 38), .call 27 [(.t 37)], none, [37]⟩]))
def c11 : RC :=
  RC.seq (RC.reg [⟨(some 2), .mv (.c .nilslice), none, []⟩,
     ⟨(some 3), .new [(.int .i64 0), (.int .i64 0)], none, []⟩])
  (RC.seq (RC.seq (RC.reg [⟨(some 6), .mv (.t 0), none, [0]⟩,
      ⟨(some 7), .len .str (.t 6), none, [6]⟩,
      ⟨(some 8), .bin (.int .gtr) (.t 7) (.c (.int .i64 65536)), none, [7]⟩])
   (RC.cond (.t 8)
    (RC.seq (RC.reg [⟨(some 9), .build [(.int .i64 0), (.int .i64 0)] [(0, 1, (.c (.int .i64 3)))], none, []⟩,
        ⟨(some 2), .mv (.c .nilslice), none, []⟩,
        ⟨none, .st 2 (.t 3) (.t 9), none, [3, 9]⟩])
     (RC.ret))
    (RC.skip)))
  (RC.seq (RC.seq (RC.reg [⟨(some 10), .mv (.t 0), none, [0]⟩,
      ⟨(some 11), .call 14 [(.t 10)], none, [10]⟩,
      ⟨(some 12), .mv (.t 0), none, [0]⟩,
      ⟨(some 13), .len .str (.t 12), none, [12]⟩,
      ⟨(some 14), .bin (.int .lss) (.t 11) (.t 13), none, [11, 13]⟩])
   (RC.cond (.t 14)
    (RC.seq (RC.reg [⟨(some 15), .mv (.t 0), none, [0]⟩,
        ⟨(some 16), .call 14 [(.t 15)], none, [15]⟩,
        ⟨(some 17), .build [(.int .i64 0), (.int .i64 0)] [(0, 1, (.c (.int .i64 250))), (1, 1, (.t 16))], none, [16]⟩,
        ⟨(some 2), .mv (.c .nilslice), none, []⟩,
        ⟨none, .st 2 (.t 3) (.t 17), none, [3, 17]⟩])
     (RC.ret))
    (RC.skip)))
  (RC.seq (RC.reg [⟨(some 18), .mv (.t 0), none, [0]⟩,
     ⟨(some 19), .build [(.str []), (.int .i64 0), (.int .i64 0), (.int .i64 0), .nilslice] [(0, 1, (.t 18))], none, [18]⟩,
     ⟨(some 20), .box (.t 19), none, [19]⟩,
     ⟨(some 4), .mv (.t 20), none, [20]⟩])
  (RC.seq (RC.seq (RC.reg [⟨(some 21), .mv (.t 4), none, [4]⟩,
      ⟨(some 22), .call 27 [(.t 21)], none, [21]⟩])
   (RC.block 0 (RC.loop c11l1)))
  (RC.seq (RC.seq (RC.reg [⟨(some 87), .mv (.t 4), none, [4]⟩,
      ⟨(some 88), .nilck (.t 87), none, [87]⟩,
      ⟨(some 89), .fa 3 (.t 88), none, [88]⟩,
      ⟨(some 90), .ld1 (.t 89), none, [89]⟩,
      ⟨(some 91), .bin (.int .neq) (.t 90) (.c (.int .i64 0)), none, [90]⟩])
   (RC.cond (.t 91)
    (RC.seq (RC.draw [⟨(some 92), .mv (.t 4), none, [4]⟩,
        ⟨(some 93), .nilck (.t 92), none, [92]⟩,
        ⟨(some 94), .fa 3 (.t 93), none, [93]⟩,
        ⟨(some 95), .ld1 (.t 94), none, [94]⟩,
        ⟨(some 96), .mv (.t 4), none, [4]⟩,
        ⟨(some 97), .nilck (.t 96), none, [96]⟩,
        ⟨(some 98), .fa 2 (.t 97), none, [97]⟩,
        ⟨(some 99), .ld1 (.t 98), none, [98]⟩,
        ⟨(some 100), .build [(.int .i64 0), (.int .i64 0)] [(0, 1, (.t 95)), (1, 1, (.t 99))], none, [95, 99]⟩,
        ⟨(some 2), .mv (.c .nilslice), none, []⟩,
        ⟨none, .st 2 (.t 3) (.t 100), none, [3, 100]⟩] [(3, [10]), (7, [10])])
     (RC.ret))
    (RC.skip)))
  (RC.seq (RC.reg [⟨(some 101), .mv (.t 4), none, [4]⟩,
     ⟨(some 102), .nilck (.t 101), none, [101]⟩,
     ⟨(some 103), .fa 4 (.t 102), none, [102]⟩,
     ⟨(some 104), .ld1 (.t 103), none, [103]⟩,
     ⟨(some 105), .build [(.int .i64 0), (.int .i64 0)] [], none, []⟩,
     ⟨(some 2), .mv (.t 104), none, [104]⟩,
     ⟨none, .st 2 (.t 3) (.t 105), none, [3, 105]⟩])
  (RC.ret)))))))
theorem c11_ok : resK Tryd.prog Tryd.f11.ntmps (Tryd.f11.body.getD .skip) = c11 := by kernel_rfl
theorem c11_res : resR Tryd.prog Tryd.f11.ntmps Tryd.f11.results.toList = [.t 2, .cn 3 2] := by kernel_rfl
theorem c11_ctr {args : List V} {h : Heap} {K : V → Heap → Prop} (hl : Nat.ble args.length 106 = true) (H : wpC Tryd.prog c11 (RF.ofL args) h fun e r h' => e.ends ∧ ∃ vs, evR r h' [.t 2, .cn 3 2] = some vs ∧ K (oneOf vs) h') : Ctr Tryd.prog 11 args h K :=
  ctr_of_wp follows namesOk Tryd.func11 (c := Tryd.f11.body.getD .skip) (by kernel_rfl) (by kernel_rfl) hl c11_ok c11_res H

/-- gimlet/gimletkit.SameTokens -/
def c12l1 : RC :=
  RC.seq (RC.seq (RC.reg [⟨(some 11), .mv (.t 5), none, [5]⟩,
      ⟨(some 12), .mv (.t 0), none, [0]⟩,
      ⟨(some 13), .len .slice (.t 12), none, [12]⟩,
      ⟨(some 14), .bin (.int .lss) (.t 11) (.t 13), none, [11, 13]⟩])
   (RC.cond (.t 14)
    (RC.skip)
    (RC.exit 0)))
  (RC.seq (RC.block 1 (RC.seq (RC.draw [⟨(some 17), .mv (.t 0), none, [0]⟩,
       ⟨(some 18), .mv (.t 5), none, [5]⟩,
       ⟨(some 19), .ia 4 (.t 17) (.t 18), none, [17, 18]⟩,
       ⟨(some 20), .ldn 4 (.t 19), none, [19]⟩,
       ⟨(some 21), .mv (.t 1), none, [1]⟩,
       ⟨(some 22), .mv (.t 5), none, [5]⟩,
       ⟨(some 23), .ia 4 (.t 21) (.t 22), none, [21, 22]⟩,
       ⟨(some 24), .ldn 4 (.t 23), none, [23]⟩,
       ⟨(some 25), .bin (.other .neq 31) (.t 20) (.t 24), none, [20, 24]⟩] [])
    (RC.cond (.t 25)
     (RC.seq (RC.reg [⟨(some 4), .mv (.c (.bool false)), none, []⟩])
      (RC.ret))
     (RC.skip))))
  (RC.reg [⟨(some 15), .mv (.t 5), none, [5]⟩,
    ⟨(some 16), .bin (.int .add) (.t 15) (.c (.int .i64 1)), none, [15]⟩,
    ⟨(some 5), .mv (.t 16), none, [16]⟩]))
def c12 : RC :=
  RC.seq (RC.reg [⟨(some 4), .mv (.c (.bool false)), none, []⟩])
  (RC.seq (RC.seq (RC.reg [⟨(some 6), .mv (.t 0), none, [0]⟩,
      ⟨(some 7), .len .slice (.t 6), none, [6]⟩,
      ⟨(some 8), .mv (.t 1), none, [1]⟩,
      ⟨(some 9), .len .slice (.t 8), none, [8]⟩,
      ⟨(some 10), .bin (.int .neq) (.t 7) (.t 9), none, [7, 9]⟩])
   (RC.cond (.t 10)
    (RC.seq (RC.reg [⟨(some 4), .mv (.c (.bool false)), none, []⟩])
     (RC.ret))
    (RC.skip)))
  (RC.seq (RC.seq (RC.reg [⟨(some 5), .mv (.c (.int .i64 0)), none, []⟩])
   (RC.block 0 (RC.loop c12l1)))
  (RC.seq (RC.reg [⟨(some 4), .mv (.c (.bool true)), none, []⟩])
  (RC.ret))))
theorem c12_ok : resK Tryd.prog Tryd.f12.ntmps (Tryd.f12.body.getD .skip) = c12 := by kernel_rfl
theorem c12_res : resR Tryd.prog Tryd.f12.ntmps Tryd.f12.results.toList = [.t 4] := by kernel_rfl
theorem c12_ctr {args : List V} {h : Heap} {K : V → Heap → Prop} (hl : Nat.ble args.length 26 = true) (H : wpC Tryd.prog c12 (RF.ofL args) h fun e r h' => e.ends ∧ ∃ vs, evR r h' [.t 4] = some vs ∧ K (oneOf vs) h') : Ctr Tryd.prog 12 args h K :=
  ctr_of_wp follows namesOk Tryd.func12 (c := Tryd.f12.body.getD .skip) (by kernel_rfl) (by kernel_rfl) hl c12_ok c12_res H

/-- gimlet/gimletref15.Right -/
def c14l1 : RC :=
  RC.seq (RC.seq (RC.reg [⟨(some 5), .mv (.t 3), none, [3]⟩,
      ⟨(some 6), .mv (.t 0), none, [0]⟩,
      ⟨(some 7), .len .str (.t 6), none, [6]⟩,
      ⟨(some 8), .bin (.int .lss) (.t 5) (.t 7), none, [5, 7]⟩])
   (RC.cond (.t 8)
    (RC.skip)
    (RC.exit 0)))
  (RC.block 1 (RC.seq (RC.reg [⟨(some 9), .mv (.t 0), none, [0]⟩,
      ⟨(some 10), .mv (.t 3), none, [3]⟩,
      ⟨(some 11), .call 35 [(.t 9), (.t 10)], none, [9, 10]⟩,
      ⟨(some 4), .mv (.t 11), none, [11]⟩])
   (RC.seq (RC.seq (RC.reg [⟨(some 12), .mv (.t 4), none, [4]⟩,
       ⟨(some 13), .bin (.int .eql) (.t 12) (.c (.int .i64 0)), none, [12]⟩])
    (RC.cond (.t 13)
     (RC.seq (RC.reg [⟨(some 14), .mv (.t 3), none, [3]⟩,
         ⟨(some 2), .mv (.t 14), none, [14]⟩])
      (RC.ret))
     (RC.skip)))
   (RC.reg [⟨(some 15), .mv (.t 3), none, [3]⟩,
     ⟨(some 16), .mv (.t 4), none, [4]⟩,
     ⟨(some 17), .bin (.int .add) (.t 15) (.t 16), none, [15, 16]⟩,
     ⟨(some 3), .mv (.t 17), none, [17]⟩]))))
def c14 : RC :=
  RC.seq (RC.reg [⟨(some 2), .mv (.c (.int .i64 0)), none, []⟩])
  (RC.seq (RC.reg [⟨(some 3), .mv (.c (.int .i64 0)), none, []⟩])
  (RC.seq (RC.block 0 (RC.loop c14l1))
  (RC.seq (RC.reg [⟨(some 18), .mv (.t 3), none, [3]⟩,
     ⟨(some 2), .mv (.t 18), none, [18]⟩])
  (RC.ret))))
theorem c14_ok : resK Tryd.prog Tryd.f14.ntmps (Tryd.f14.body.getD .skip) = c14 := by kernel_rfl
theorem c14_res : resR Tryd.prog Tryd.f14.ntmps Tryd.f14.results.toList = [.t 2] := by kernel_rfl
theorem c14_ctr {args : List V} {h : Heap} {K : V → Heap → Prop} (hl : Nat.ble args.length 19 = true) (H : wpC Tryd.prog c14 (RF.ofL args) h fun e r h' => e.ends ∧ ∃ vs, evR r h' [.t 2] = some vs ∧ K (oneOf vs) h') : Ctr Tryd.prog 14 args h K :=
  ctr_of_wp follows namesOk Tryd.func14 (c := Tryd.f14.body.getD .skip) (by kernel_rfl) (by kernel_rfl) hl c14_ok c14_res H

/-- gimlet/gimletkit.Pick -/
def c15 : RC :=
  RC.seq (RC.reg [⟨(some 4), .mv (.c (.int .i64 0)), none, []⟩])
  (RC.seq (RC.seq (RC.reg [⟨(some 5), .mv (.t 1), none, [1]⟩,
      ⟨(some 6), .bin (.int .lss) (.t 5) (.c (.int .i64 1)), none, [5]⟩])
   (RC.cond (.t 6)
    (RC.seq (RC.reg [⟨(some 4), .mv (.c (.int .i64 0)), none, []⟩])
     (RC.ret))
    (RC.skip)))
  (RC.seq (RC.reg [⟨(some 7), .mv (.t 0), none, [0]⟩,
     ⟨(some 8), .mv (.t 1), none, [1]⟩,
     ⟨(some 9), .bin (.int .rem) (.t 7) (.t 8), none, [7, 8]⟩,
     ⟨(some 0), .mv (.t 9), none, [9]⟩])
  (RC.seq (RC.seq (RC.reg [⟨(some 10), .mv (.t 0), none, [0]⟩,
      ⟨(some 11), .bin (.int .lss) (.t 10) (.c (.int .i64 0)), none, [10]⟩])
   (RC.cond (.t 11)
    (RC.reg [⟨(some 12), .mv (.t 0), none, [0]⟩,
       ⟨(some 13), .mv (.t 1), none, [1]⟩,
       ⟨(some 14), .bin (.int .add) (.t 12) (.t 13), none, [12, 13]⟩,
       ⟨(some 0), .mv (.t 14), none, [14]⟩])
    (RC.skip)))
  (RC.seq (RC.reg [⟨(some 15), .mv (.t 0), none, [0]⟩,
     ⟨(some 4), .mv (.t 15), none, [15]⟩])
  (RC.ret)))))
theorem c15_ok : resK Tryd.prog Tryd.f15.ntmps (Tryd.f15.body.getD .skip) = c15 := by kernel_rfl
theorem c15_res : resR Tryd.prog Tryd.f15.ntmps Tryd.f15.results.toList = [.t 4] := by kernel_rfl
theorem c15_ctr {args : List V} {h : Heap} {K : V → Heap → Prop} (hl : Nat.ble args.length 16 = true) (H : wpC Tryd.prog c15 (RF.ofL args) h fun e r h' => e.ends ∧ ∃ vs, evR r h' [.t 4] = some vs ∧ K (oneOf vs) h') : Ctr Tryd.prog 15 args h K :=
  ctr_of_wp follows namesOk Tryd.func15 (c := Tryd.f15.body.getD .skip) (by kernel_rfl) (by kernel_rfl) hl c15_ok c15_res H

/-- gimlet/gimletlaw15.repeat -/
def c16l1 : RC :=
  RC.seq (RC.seq (RC.reg [⟨(some 7), .mv (.t 6), none, [6]⟩,
      ⟨(some 8), .mv (.t 1), none, [1]⟩,
      ⟨(some 9), .bin (.int .lss) (.t 7) (.t 8), none, [7, 8]⟩])
   (RC.cond (.t 9)
    (RC.skip)
    (RC.exit 0)))
  (RC.seq (RC.block 1 (RC.reg [⟨(some 12), .mv (.t 5), none, [5]⟩,
      ⟨(some 13), .mv (.t 0), none, [0]⟩,
      ⟨(some 14), .app 1 (.t 12) (.t 13), none, [12, 13]⟩,
      ⟨(some 5), .mv (.t 14), none, [14]⟩]))
  (RC.reg [⟨(some 10), .mv (.t 6), none, [6]⟩,
    ⟨(some 11), .bin (.int .add) (.t 10) (.c (.int .i64 1)), none, [10]⟩,
    ⟨(some 6), .mv (.t 11), none, [11]⟩]))
def c16 : RC :=
  RC.seq (RC.reg [⟨(some 4), .mv (.c (.str [])), none, []⟩])
  (RC.seq (RC.reg [⟨(some 5), .mv (.c .nilslice), none, []⟩])
  (RC.seq (RC.seq (RC.reg [⟨(some 6), .mv (.c (.int .i64 0)), none, []⟩])
   (RC.block 0 (RC.loop c16l1)))
  (RC.seq (RC.reg [⟨(some 15), .mv (.t 5), none, [5]⟩,
     ⟨(some 16), .cv .str (.t 15), none, [15]⟩,
     ⟨(some 4), .mv (.t 16), none, [16]⟩])
  (RC.ret))))
theorem c16_ok : resK Tryd.prog Tryd.f16.ntmps (Tryd.f16.body.getD .skip) = c16 := by kernel_rfl
theorem c16_res : resR Tryd.prog Tryd.f16.ntmps Tryd.f16.results.toList = [.t 4] := by kernel_rfl
theorem c16_ctr {args : List V} {h : Heap} {K : V → Heap → Prop} (hl : Nat.ble args.length 17 = true) (H : wpC Tryd.prog c16 (RF.ofL args) h fun e r h' => e.ends ∧ ∃ vs, evR r h' [.t 4] = some vs ∧ K (oneOf vs) h') : Ctr Tryd.prog 16 args h K :=
  ctr_of_wp follows namesOk Tryd.func16 (c := Tryd.f16.body.getD .skip) (by kernel_rfl) (by kernel_rfl) hl c16_ok c16_res H

/-- gimlet/gimletkit.LargeWords -/
def c17l1 : RC :=
  RC.seq (RC.seq (RC.reg [⟨(some 6), .mv (.t 5), none, [5]⟩,
      ⟨(some 7), .mv (.t 0), none, [0]⟩,
      ⟨(some 8), .len .slice (.t 7), none, [7]⟩,
      ⟨(some 9), .bin (.int .lss) (.t 6) (.t 8), none, [6, 8]⟩])
   (RC.cond (.t 9)
    (RC.skip)
    (RC.exit 0)))
  (RC.seq (RC.block 1 (RC.seq (RC.reg [⟨(some 12), .mv (.t 0), none, [0]⟩,
       ⟨(some 13), .mv (.t 5), none, [5]⟩,
       ⟨(some 14), .ia 4 (.t 12) (.t 13), none, [12, 13]⟩,
       ⟨(some 15), .fa 3 (.t 14), none, [14]⟩,
       ⟨(some 16), .ld1 (.t 15), none, [15]⟩,
       ⟨(some 17), .len .str (.t 16), none, [16]⟩,
       ⟨(some 18), .bin (.int .gtr) (.t 17) (.c (.int .i64 200)), none, [17]⟩])
    (RC.cond (.t 18)
     (RC.seq (RC.reg [⟨(some 4), .mv (.c (.bool true)), none, []⟩])
      (RC.ret))
     (RC.skip))))
  (RC.reg [⟨(some 10), .mv (.t 5), none, [5]⟩,
    ⟨(some 11), .bin (.int .add) (.t 10) (.c (.int .i64 1)), none, [10]⟩,
    ⟨(some 5), .mv (.t 11), none, [11]⟩]))
def c17 : RC :=
  RC.seq (RC.reg [⟨(some 4), .mv (.c (.bool false)), none, []⟩])
  (RC.seq (RC.seq (RC.reg [⟨(some 5), .mv (.c (.int .i64 0)), none, []⟩])
   (RC.block 0 (RC.loop c17l1)))
  (RC.seq (RC.reg [⟨(some 19), .mv (.t 0), none, [0]⟩,
     ⟨(some 20), .len .slice (.t 19), none, [19]⟩,
     ⟨(some 21), .mv (.t 1), none, [1]⟩,
     ⟨(some 22), .bin (.int .gtr) (.t 20) (.t 21), none, [20, 21]⟩,
     ⟨(some 4), .mv (.t 22), none, [22]⟩])
  (RC.ret)))
theorem c17_ok : resK Tryd.prog Tryd.f17.ntmps (Tryd.f17.body.getD .skip) = c17 := by kernel_rfl
theorem c17_res : resR Tryd.prog Tryd.f17.ntmps Tryd.f17.results.toList = [.t 4] := by kernel_rfl
theorem c17_ctr {args : List V} {h : Heap} {K : V → Heap → Prop} (hl : Nat.ble args.length 23 = true) (H : wpC Tryd.prog c17 (RF.ofL args) h fun e r h' => e.ends ∧ ∃ vs, evR r h' [.t 4] = some vs ∧ K (oneOf vs) h') : Ctr Tryd.prog 17 args h K :=
  ctr_of_wp follows namesOk Tryd.func17 (c := Tryd.f17.body.getD .skip) (by kernel_rfl) (by kernel_rfl) hl c17_ok c17_res H

/-- gimlet/gimletref15.Write -/
def c19l1 : RC :=
  RC.seq (RC.seq (RC.reg [⟨(some 6), .mv (.t 5), none, [5]⟩,
      ⟨(some 7), .mv (.t 0), none, [0]⟩,
      ⟨(some 8), .len .slice (.t 7), none, [7]⟩,
      ⟨(some 9), .bin (.int .lss) (.t 6) (.t 8), none, [6, 8]⟩])
   (RC.cond (.t 9)
    (RC.skip)
    (RC.exit 0)))
  (RC.seq (RC.block 1 (RC.seq (RC.seq (RC.reg [⟨(some 12), .mv (.t 0), none, [0]⟩,
        ⟨(some 13), .mv (.t 5), none, [5]⟩,
        ⟨(some 14), .ia 4 (.t 12) (.t 13), none, [12, 13]⟩,
        ⟨(some 15), .ldn 4 (.t 14), none, [14]⟩,
        ⟨(some 16), .call 40 [(.t 15)], none, [15]⟩,
        ⟨(some 17), .un .not (.t 16), none, [16]⟩])
     (RC.cond (.t 17)
      (RC.seq (RC.reg [⟨(some 2), .mv (.c (.str [])), none, []⟩,
          ⟨(some 3), .mv (.c (.int .i64 2)), none, []⟩])
       (RC.ret))
      (RC.skip)))
    (RC.seq (RC.seq (RC.reg [⟨(some 18), .mv (.t 5), none, [5]⟩,
        ⟨(some 19), .bin (.int .gtr) (.t 18) (.c (.int .i64 0)), none, [18]⟩])
     (RC.cond (.t 19)
      (RC.reg [⟨(some 20), .mv (.t 4), none, [4]⟩,
         ⟨(some 21), .bsl 1 1 [(.int .u8 0)] [(0, 1, (.c (.int .u8 32)))], none, []⟩,
         ⟨(some 22), .app 1 (.t 20) (.t 21), none, [20, 21]⟩,
         ⟨(some 4), .mv (.t 22), none, [22]⟩])
      (RC.skip)))
    (RC.reg [⟨(some 23), .mv (.t 4), none, [4]⟩,
      ⟨(some 24), .mv (.t 0), none, [0]⟩,
      ⟨(some 25), .mv (.t 5), none, [5]⟩,
      ⟨(some 26), .ia 4 (.t 24) (.t 25), none, [24, 25]⟩,
      ⟨(some 27), .ldn 4 (.t 26), none, [26]⟩,
      ⟨(some 28), .call 41 [(.t 27)], none, [27]⟩,
      ⟨(some 29), .app 1 (.t 23) (.t 28), none, [23, 28]⟩,
      ⟨(some 4), .mv (.t 29), none, [29]⟩]))))
  (RC.reg [⟨(some 10), .mv (.t 5), none, [5]⟩,
    ⟨(some 11), .bin (.int .add) (.t 10) (.c (.int .i64 1)), none, [10]⟩,
    ⟨(some 5), .mv (.t 11), none, [11]⟩]))
def c19 : RC :=
  RC.seq (RC.reg [⟨(some 2), .mv (.c (.str [])), none, []⟩,
     ⟨(some 3), .mv (.c (.int .i64 0)), none, []⟩])
  (RC.seq (RC.reg [⟨(some 4), .mv (.c .nilslice), none, []⟩])
  (RC.seq (RC.seq (RC.reg [⟨(some 5), .mv (.c (.int .i64 0)), none, []⟩])
   (RC.block 0 (RC.loop c19l1)))
  (RC.seq (RC.reg [⟨(some 30), .mv (.t 4), none, [4]⟩,
     ⟨(some 31), .cv .str (.t 30), none, [30]⟩,
     ⟨(some 2), .mv (.t 31), none, [31]⟩,
     ⟨(some 3), .mv (.c (.int .i64 0)), none, []⟩])
  (RC.ret))))
theorem c19_ok : resK Tryd.prog Tryd.f19.ntmps (Tryd.f19.body.getD .skip) = c19 := by kernel_rfl
theorem c19_res : resR Tryd.prog Tryd.f19.ntmps Tryd.f19.results.toList = [.t 2, .t 3] := by kernel_rfl
theorem c19_ctr {args : List V} {h : Heap} {K : V → Heap → Prop} (hl : Nat.ble args.length 32 = true) (H : wpC Tryd.prog c19 (RF.ofL args) h fun e r h' => e.ends ∧ ∃ vs, evR r h' [.t 2, .t 3] = some vs ∧ K (oneOf vs) h') : Ctr Tryd.prog 19 args h K :=
  ctr_of_wp follows namesOk Tryd.func19 (c := Tryd.f19.body.getD .skip) (by kernel_rfl) (by kernel_rfl) hl c19_ok c19_res H

/-- gimlet/gimletlaw15.has -/
def c20 : RC :=
  RC.seq (RC.reg [⟨(some 4), .mv (.c (.bool false)), none, []⟩])
  (RC.seq (RC.reg [⟨(some 8), .mv (.t 0), none, [0]⟩,
     ⟨(some 9), .call 10 [(.t 8)], none, [8]⟩,
     ⟨(some 7), .mv (.t 9), none, [9]⟩,
     ⟨(some 10), .ext (.t 7) 0, none, [7]⟩,
     ⟨(some 11), .ext (.t 7) 1, none, [7]⟩,
     ⟨(some 6), .new [(.int .i64 0), (.int .i64 0)], none, []⟩,
     ⟨(some 5), .mv (.t 10), none, [10]⟩,
     ⟨none, .st 2 (.t 6) (.t 11), none, [6, 11]⟩])
  (RC.seq (RC.reg [⟨(some 12), .ldn 2 (.t 6), none, [6]⟩,
     ⟨(some 13), .build [(.int .i64 0), (.int .i64 0)] [], none, []⟩,
     ⟨(some 14), .bin (.other .eql 26) (.t 12) (.t 13), none, [12, 13]⟩,
     ⟨(some 15), .mv (.t 14), none, [14]⟩,
     ⟨(some 16), .mv (.t 5), (some (15, true)), [5, 15]⟩,
     ⟨(some 17), .mv (.t 1), (some (15, true)), [1, 15]⟩,
     ⟨(some 18), .call 12 [(.t 16), (.t 17)], (some (15, true)), [16, 17, 15]⟩,
     ⟨(some 19), .pick (.t 15) (.t 18) (.c (.bool false)), none, [15, 18]⟩,
     ⟨(some 4), .mv (.t 19), none, [19]⟩])
  (RC.ret)))
theorem c20_ok : resK Tryd.prog Tryd.f20.ntmps (Tryd.f20.body.getD .skip) = c20 := by kernel_rfl
theorem c20_res : resR Tryd.prog Tryd.f20.ntmps Tryd.f20.results.toList = [.t 4] := by kernel_rfl
theorem c20_ctr {args : List V} {h : Heap} {K : V → Heap → Prop} (hl : Nat.ble args.length 20 = true) (H : wpC Tryd.prog c20 (RF.ofL args) h fun e r h' => e.ends ∧ ∃ vs, evR r h' [.t 4] = some vs ∧ K (oneOf vs) h') : Ctr Tryd.prog 20 args h K :=
  ctr_of_wp follows namesOk Tryd.func20 (c := Tryd.f20.body.getD .skip) (by kernel_rfl) (by kernel_rfl) hl c20_ok c20_res H

/-- gimlet/gimletlaw15.faulty -/
def c21 : RC :=
  RC.seq (RC.reg [⟨(some 6), .mv (.c (.bool false)), none, []⟩])
  (RC.seq (RC.reg [⟨(some 10), .mv (.t 0), none, [0]⟩,
     ⟨(some 11), .call 10 [(.t 10)], none, [10]⟩,
     ⟨(some 9), .mv (.t 11), none, [11]⟩,
     ⟨(some 12), .ext (.t 9) 0, none, [9]⟩,
     ⟨(some 13), .ext (.t 9) 1, none, [9]⟩,
     ⟨(some 8), .new [(.int .i64 0), (.int .i64 0)], none, []⟩,
     ⟨(some 7), .mv (.t 12), none, [12]⟩,
     ⟨none, .st 2 (.t 8) (.t 13), none, [8, 13]⟩])
  (RC.seq (RC.reg [⟨(some 14), .mv (.t 7), none, [7]⟩,
     ⟨(some 15), .len .slice (.t 14), none, [14]⟩,
     ⟨(some 16), .bin (.int .eql) (.t 15) (.c (.int .i64 0)), none, [15]⟩,
     ⟨(some 17), .mv (.t 16), none, [16]⟩,
     ⟨(some 18), .ldn 2 (.t 8), (some (17, true)), [8, 17]⟩,
     ⟨(some 19), .mv (.t 1), (some (17, true)), [1, 17]⟩,
     ⟨(some 20), .mv (.t 2), (some (17, true)), [2, 17]⟩,
     ⟨(some 21), .build [(.int .i64 0), (.int .i64 0)] [(0, 1, (.t 19)), (1, 1, (.t 20))], (some (17, true)), [19, 20, 17]⟩,
     ⟨(some 22), .bin (.other .eql 26) (.t 18) (.t 21), (some (17, true)), [18, 21, 17]⟩,
     ⟨(some 23), .pick (.t 17) (.t 22) (.c (.bool false)), none, [17, 22]⟩,
     ⟨(some 6), .mv (.t 23), none, [23]⟩])
  (RC.ret)))
theorem c21_ok : resK Tryd.prog Tryd.f21.ntmps (Tryd.f21.body.getD .skip) = c21 := by kernel_rfl
theorem c21_res : resR Tryd.prog Tryd.f21.ntmps Tryd.f21.results.toList = [.t 6] := by kernel_rfl
theorem c21_ctr {args : List V} {h : Heap} {K : V → Heap → Prop} (hl : Nat.ble args.length 24 = true) (H : wpC Tryd.prog c21 (RF.ofL args) h fun e r h' => e.ends ∧ ∃ vs, evR r h' [.t 6] = some vs ∧ K (oneOf vs) h') : Ctr Tryd.prog 21 args h K :=
  ctr_of_wp follows namesOk Tryd.func21 (c := Tryd.f21.body.getD .skip) (by kernel_rfl) (by kernel_rfl) hl c21_ok c21_res H

/-- gimlet/gimletlaw15.again -/
def c22l1 : RC :=
  RC.seq (RC.seq (RC.reg [⟨(some 23), .mv (.t 7), none, [7]⟩,
      ⟨(some 24), .mv (.t 5), none, [5]⟩,
      ⟨(some 25), .len .slice (.t 24), none, [24]⟩,
      ⟨(some 26), .bin (.int .lss) (.t 23) (.t 25), none, [23, 25]⟩])
   (RC.cond (.t 26)
    (RC.skip)
    (RC.exit 0)))
  (RC.seq (RC.block 1 (RC.seq (RC.draw [⟨(some 29), .mv (.t 5), none, [5]⟩,
       ⟨(some 30), .mv (.t 7), none, [7]⟩,
       ⟨(some 31), .ia 4 (.t 29) (.t 30), none, [29, 30]⟩,
       ⟨(some 32), .fa 0 (.t 31), none, [31]⟩,
       ⟨(some 33), .ld1 (.t 32), none, [32]⟩,
       ⟨(some 34), .mv (.t 1), none, [1]⟩,
       ⟨(some 35), .mv (.t 7), none, [7]⟩,
       ⟨(some 36), .ia 4 (.t 34) (.t 35), none, [34, 35]⟩,
       ⟨(some 37), .fa 0 (.t 36), none, [36]⟩,
       ⟨(some 38), .ld1 (.t 37), none, [37]⟩,
       ⟨(some 39), .bin (.int .neq) (.t 33) (.t 38), none, [33, 38]⟩,
       ⟨(some 40), .mv (.t 39), none, [39]⟩,
       ⟨(some 41), .mv (.t 5), (some (40, false)), [5, 40]⟩,
       ⟨(some 42), .mv (.t 7), (some (40, false)), [7, 40]⟩,
       ⟨(some 43), .ia 4 (.t 41) (.t 42), (some (40, false)), [41, 42, 40]⟩,
       ⟨(some 44), .fa 1 (.t 43), (some (40, false)), [43, 40]⟩,
       ⟨(some 45), .ld1 (.t 44), (some (40, false)), [44, 40]⟩,
       ⟨(some 46), .mv (.t 1), (some (40, false)), [1, 40]⟩,
       ⟨(some 47), .mv (.t 7), (some (40, false)), [7, 40]⟩,
       ⟨(some 48), .ia 4 (.t 46) (.t 47), (some (40, false)), [46, 47, 40]⟩,
       ⟨(some 49), .fa 1 (.t 48), (some (40, false)), [48, 40]⟩,
       ⟨(some 50), .ld1 (.t 49), (some (40, false)), [49, 40]⟩,
       ⟨(some 51), .bin (.int .neq) (.t 45) (.t 50), (some (40, false)), [45, 50, 40]⟩,
       ⟨(some 52), .pick (.t 40) (.c (.bool true)) (.t 51), none, [40, 51]⟩,
       ⟨(some 53), .mv (.t 52), none, [52]⟩,
       ⟨(some 54), .mv (.t 5), (some (53, false)), [5, 53]⟩,
       ⟨(some 55), .mv (.t 7), (some (53, false)), [7, 53]⟩,
       ⟨(some 56), .ia 4 (.t 54) (.t 55), (some (53, false)), [54, 55, 53]⟩,
       ⟨(some 57), .fa 3 (.t 56), (some (53, false)), [56, 53]⟩,
       ⟨(some 58), .ld1 (.t 57), (some (53, false)), [57, 53]⟩,
       ⟨(some 59), .mv (.t 1), (some (53, false)), [1, 53]⟩,
       ⟨(some 60), .mv (.t 7), (some (53, false)), [7, 53]⟩,
       ⟨(some 61), .ia 4 (.t 59) (.t 60), (some (53, false)), [59, 60, 53]⟩,
       ⟨(some 62), .fa 3 (.t 61), (some (53, false)), [61, 53]⟩,
       ⟨(some 63), .ld1 (.t 62), (some (53, false)), [62, 53]⟩,
       ⟨(some 64), .bin (.str .neq) (.t 58) (.t 63), (some (53, false)), [58, 63, 53]⟩,
       ⟨(some 65), .pick (.t 53) (.c (.bool true)) (.t 64), none, [53, 64]⟩,
       ⟨(some 66), .mv (.t 65), none, [65]⟩,
       ⟨(some 67), .mv (.t 7), (some (66, false)), [7, 66]⟩,
       ⟨(some 68), .bin (.int .gtr) (.t 67) (.c (.int .i64 0)), (some (66, false)), [67, 66]⟩,
       ⟨(some 69), .mv (.t 68), (some (66, false)), [68, 66]⟩,
       ⟨(some 70), .mv (.t 5), (some (69, true)), [5, 69]⟩,
       ⟨(some 71), .mv (.t 7), (some (69, true)), [7, 69]⟩,
       ⟨(some 72), .ia 4 (.t 70) (.t 71), (some (69, true)), [70, 71, 69]⟩,
       ⟨(some 73), .fa 2 (.t 72), (some (69, true)), [72, 69]⟩,
       ⟨(some 74), .ld1 (.t 73), (some (69, true)), [73, 69]⟩,
       ⟨(some 75), .mv (.t 5), (some (69, true)), [5, 69]⟩,
       ⟨(some 76), .mv (.t 7), (some (69, true)), [7, 69]⟩,
       ⟨(some 77), .bin (.int .sub) (.t 76) (.c (.int .i64 1)), (some (69, true)), [76, 69]⟩,
       ⟨(some 78), .ia 4 (.t 75) (.t 77), (some (69, true)), [75, 77, 69]⟩,
       ⟨(some 79), .fa 2 (.t 78), (some (69, true)), [78, 69]⟩,
       ⟨(some 80), .ld1 (.t 79), (some (69, true)), [79, 69]⟩,
       ⟨(some 81), .bin (.int .leq) (.t 74) (.t 80), (some (69, true)), [74, 80, 69]⟩,
       ⟨(some 82), .pick (.t 69) (.t 81) (.c (.bool false)), (some (66, false)), [69, 81, 66]⟩,
       ⟨(some 83), .pick (.t 66) (.c (.bool true)) (.t 82), none, [66, 82]⟩] [])
    (RC.cond (.t 83)
     (RC.seq (RC.reg [⟨(some 4), .mv (.c (.bool false)), none, []⟩])
      (RC.ret))
     (RC.skip))))
  (RC.reg [⟨(some 27), .mv (.t 7), none, [7]⟩,
    ⟨(some 28), .bin (.int .add) (.t 27) (.c (.int .i64 1)), none, [27]⟩,
    ⟨(some 7), .mv (.t 28), none, [28]⟩]))
def c22 : RC :=
  RC.seq (RC.reg [⟨(some 4), .mv (.c (.bool false)), none, []⟩])
  (RC.seq (RC.reg [⟨(some 9), .mv (.t 0), none, [0]⟩,
     ⟨(some 10), .call 10 [(.t 9)], none, [9]⟩,
     ⟨(some 8), .mv (.t 10), none, [10]⟩,
     ⟨(some 11), .ext (.t 8) 0, none, [8]⟩,
     ⟨(some 12), .ext (.t 8) 1, none, [8]⟩,
     ⟨(some 6), .new [(.int .i64 0), (.int .i64 0)], none, []⟩,
     ⟨(some 5), .mv (.t 11), none, [11]⟩,
     ⟨none, .st 2 (.t 6) (.t 12), none, [6, 12]⟩])
  (RC.seq (RC.seq (RC.reg [⟨(some 13), .fa 0 (.t 6), none, [6]⟩,
      ⟨(some 14), .ld1 (.t 13), none, [13]⟩,
      ⟨(some 15), .bin (.int .neq) (.t 14) (.c (.int .i64 0)), none, [14]⟩,
      ⟨(some 16), .mv (.t 15), none, [15]⟩,
      ⟨(some 17), .mv (.t 5), (some (16, false)), [5, 16]⟩,
      ⟨(some 18), .len .slice (.t 17), (some (16, false)), [17, 16]⟩,
      ⟨(some 19), .mv (.t 1), (some (16, false)), [1, 16]⟩,
      ⟨(some 20), .len .slice (.t 19), (some (16, false)), [19, 16]⟩,
      ⟨(some 21), .bin (.int .neq) (.t 18) (.t 20), (some (16, false)), [18, 20, 16]⟩,
      ⟨(some 22), .pick (.t 16) (.c (.bool true)) (.t 21), none, [16, 21]⟩])
   (RC.cond (.t 22)
    (RC.seq (RC.reg [⟨(some 4), .mv (.c (.bool false)), none, []⟩])
     (RC.ret))
    (RC.skip)))
  (RC.seq (RC.seq (RC.reg [⟨(some 7), .mv (.c (.int .i64 0)), none, []⟩])
   (RC.block 0 (RC.loop c22l1)))
  (RC.seq (RC.reg [⟨(some 4), .mv (.c (.bool true)), none, []⟩])
  (RC.ret)))))
theorem c22_ok : resK Tryd.prog Tryd.f22.ntmps (Tryd.f22.body.getD .skip) = c22 := by kernel_rfl
theorem c22_res : resR Tryd.prog Tryd.f22.ntmps Tryd.f22.results.toList = [.t 4] := by kernel_rfl
theorem c22_ctr {args : List V} {h : Heap} {K : V → Heap → Prop} (hl : Nat.ble args.length 84 = true) (H : wpC Tryd.prog c22 (RF.ofL args) h fun e r h' => e.ends ∧ ∃ vs, evR r h' [.t 4] = some vs ∧ K (oneOf vs) h') : Ctr Tryd.prog 22 args h K :=
  ctr_of_wp follows namesOk Tryd.func22 (c := Tryd.f22.body.getD .skip) (by kernel_rfl) (by kernel_rfl) hl c22_ok c22_res H

/-- (*gimlet/gimletref15.reader).skip -/
def c27l1 : RC :=
  RC.seq (RC.seq (RC.draw [⟨(some 3), .mv (.t 0), none, [0]⟩,
      ⟨(some 4), .nilck (.t 3), none, [3]⟩,
      ⟨(some 5), .fa 1 (.t 4), none, [4]⟩,
      ⟨(some 6), .ld1 (.t 5), none, [5]⟩,
      ⟨(some 7), .mv (.t 0), none, [0]⟩,
      ⟨(some 8), .nilck (.t 7), none, [7]⟩,
      ⟨(some 9), .fa 0 (.t 8), none, [8]⟩,
      ⟨(some 10), .ld1 (.t 9), none, [9]⟩,
      ⟨(some 11), .len .str (.t 10), none, [10]⟩,
      ⟨(some 12), .bin (.int .lss) (.t 6) (.t 11), none, [6, 11]⟩,
      ⟨(some 13), .mv (.t 12), none, [12]⟩,
      ⟨(some 14), .mv (.t 0), (some (13, true)), [0, 13]⟩,
      ⟨(some 15), .nilck (.t 14), (some (13, true)), [14, 13]⟩,
      ⟨(some 16), .fa 3 (.t 15), (some (13, true)), [15, 13]⟩,
      ⟨(some 17), .ld1 (.t 16), (some (13, true)), [16, 13]⟩,
      ⟨(some 18), .bin (.int .eql) (.t 17) (.c (.int .i64 0)), (some (13, true)), [17, 13]⟩,
      ⟨(some 19), .pick (.t 13) (.t 18) (.c (.bool false)), none, [13, 18]⟩] [])
   (RC.cond (.t 19)
    (RC.skip)
    (RC.exit 0)))
  (RC.block 1 (RC.seq (RC.draw [⟨(some 20), .mv (.t 0), none, [0]⟩,
      ⟨(some 21), .nilck (.t 20), none, [20]⟩,
      ⟨(some 22), .fa 0 (.t 21), none, [21]⟩,
      ⟨(some 23), .ld1 (.t 22), none, [22]⟩,
      ⟨(some 24), .mv (.t 0), none, [0]⟩,
      ⟨(some 25), .nilck (.t 24), none, [24]⟩,
      ⟨(some 26), .fa 1 (.t 25), none, [25]⟩,
      ⟨(some 27), .ld1 (.t 26), none, [26]⟩,
      ⟨(some 28), .ixs (.t 23) (.t 27), none, [23, 27]⟩,
      ⟨(some 2), .mv (.t 28), none, [28]⟩] [])
   (RC.seq (RC.reg [⟨(some 29), .mv (.t 0), none, [0]⟩,
      ⟨(some 30), .mv (.t 0), none, [0]⟩,
      ⟨(some 31), .nilck (.t 30), none, [30]⟩,
      ⟨(some 32), .fa 1 (.t 31), none, [31]⟩,
      ⟨(some 33), .ld1 (.t 32), none, [32]⟩,
      ⟨(some 34), .nilck (.t 29), none, [29]⟩,
      ⟨(some 35), .fa 2 (.t 34), none, [34]⟩,
      ⟨none, .st 1 (.t 35) (.t 33), none, [35, 33]⟩])
   (RC.seq (RC.reg [⟨(some 36), .mv (.t 0), none, [0]⟩,
      ⟨(some 37), .call 51 [(.t 36), (.c (.str [40, 42]))], none, [36]⟩])
   (RC.cond (.t 37)
    (RC.reg [⟨(some 38), .mv (.t 0), none, [0]⟩,
       ⟨(some 39), .call 52 [(.t 38)], none, [38]⟩])
    (RC.seq (RC.reg [⟨(some 40), .mv (.t 2), none, [2]⟩,
        ⟨(some 41), .bin (.int .eql) (.t 40) (.c (.int .u8 9)), none, [40]⟩,
        ⟨(some 42), .mv (.t 41), none, [41]⟩,
        ⟨(some 43), .mv (.t 2), (some (42, false)), [2, 42]⟩,
        ⟨(some 44), .bin (.int .eql) (.t 43) (.c (.int .u8 10)), (some (42, false)), [43, 42]⟩,
        ⟨(some 45), .pick (.t 42) (.c (.bool true)) (.t 44), none, [42, 44]⟩,
        ⟨(some 46), .mv (.t 45), none, [45]⟩,
        ⟨(some 47), .mv (.t 2), (some (46, false)), [2, 46]⟩,
        ⟨(some 48), .bin (.int .eql) (.t 47) (.c (.int .u8 13)), (some (46, false)), [47, 46]⟩,
        ⟨(some 49), .pick (.t 46) (.c (.bool true)) (.t 48), none, [46, 48]⟩,
        ⟨(some 50), .mv (.t 49), none, [49]⟩,
        ⟨(some 51), .mv (.t 2), (some (50, false)), [2, 50]⟩,
        ⟨(some 52), .bin (.int .eql) (.t 51) (.c (.int .u8 32)), (some (50, false)), [51, 50]⟩,
        ⟨(some 53), .pick (.t 50) (.c (.bool true)) (.t 52), none, [50, 52]⟩])
     (RC.cond (.t 53)
      (RC.reg [⟨(some 54), .mv (.t 0), none, [0]⟩,
         ⟨(some 55), .nilck (.t 54), none, [54]⟩,
         ⟨(some 56), .fa 1 (.t 55), none, [55]⟩,
         ⟨(some 57), .ld1 (.t 56), none, [56]⟩,
         ⟨(some 58), .bin (.int .add) (.t 57) (.c (.int .i64 1)), none, [57]⟩,
         ⟨(some 59), .nilck (.t 54), none, [54]⟩,
         ⟨(some 60), .fa 1 (.t 59), none, [59]⟩,
         ⟨none, .st 1 (.t 60) (.t 58), none, [60, 58]⟩])
      (RC.ret))))))))
def c27 : RC :=
  RC.block 0 (RC.loop c27l1)
theorem c27_ok : resK Tryd.prog Tryd.f27.ntmps (Tryd.f27.body.getD .skip) = c27 := by kernel_rfl
theorem c27_res : resR Tryd.prog Tryd.f27.ntmps Tryd.f27.results.toList = [] := by kernel_rfl
theorem c27_ctr {args : List V} {h : Heap} {K : V → Heap → Prop} (hl : Nat.ble args.length 61 = true) (H : wpC Tryd.prog c27 (RF.ofL args) h fun e r h' => e.ends ∧ ∃ vs, evR r h' [] = some vs ∧ K (oneOf vs) h') : Ctr Tryd.prog 27 args h K :=
  ctr_of_wp follows namesOk Tryd.func27 (c := Tryd.f27.body.getD .skip) (by kernel_rfl) (by kernel_rfl) hl c27_ok c27_res H

/-- gimlet/gimletref15.within -/
def c28 : RC :=
  RC.seq (RC.reg [⟨(some 6), .mv (.c (.bool false)), none, []⟩])
  (RC.seq (RC.reg [⟨(some 7), .mv (.t 0), none, [0]⟩,
     ⟨(some 8), .mv (.t 1), none, [1]⟩,
     ⟨(some 9), .bin (.int .geq) (.t 7) (.t 8), none, [7, 8]⟩,
     ⟨(some 10), .mv (.t 9), none, [9]⟩,
     ⟨(some 11), .mv (.t 0), (some (10, true)), [0, 10]⟩,
     ⟨(some 12), .mv (.t 2), (some (10, true)), [2, 10]⟩,
     ⟨(some 13), .bin (.int .leq) (.t 11) (.t 12), (some (10, true)), [11, 12, 10]⟩,
     ⟨(some 14), .pick (.t 10) (.t 13) (.c (.bool false)), none, [10, 13]⟩,
     ⟨(some 6), .mv (.t 14), none, [14]⟩])
  (RC.ret))
theorem c28_ok : resK Tryd.prog Tryd.f28.ntmps (Tryd.f28.body.getD .skip) = c28 := by kernel_rfl
theorem c28_res : resR Tryd.prog Tryd.f28.ntmps Tryd.f28.results.toList = [.t 6] := by kernel_rfl
theorem c28_ctr {args : List V} {h : Heap} {K : V → Heap → Prop} (hl : Nat.ble args.length 15 = true) (H : wpC Tryd.prog c28 (RF.ofL args) h fun e r h' => e.ends ∧ ∃ vs, evR r h' [.t 6] = some vs ∧ K (oneOf vs) h') : Ctr Tryd.prog 28 args h K :=
  ctr_of_wp follows namesOk Tryd.func28 (c := Tryd.f28.body.getD .skip) (by kernel_rfl) (by kernel_rfl) hl c28_ok c28_res H

/-- (*gimlet/gimletref15.reader).name -/
def c29l1 : RC :=
  RC.seq (RC.seq (RC.draw [⟨(some 3), .mv (.t 0), none, [0]⟩,
      ⟨(some 4), .nilck (.t 3), none, [3]⟩,
      ⟨(some 5), .fa 1 (.t 4), none, [4]⟩,
      ⟨(some 6), .ld1 (.t 5), none, [5]⟩,
      ⟨(some 7), .mv (.t 0), none, [0]⟩,
      ⟨(some 8), .nilck (.t 7), none, [7]⟩,
      ⟨(some 9), .fa 0 (.t 8), none, [8]⟩,
      ⟨(some 10), .ld1 (.t 9), none, [9]⟩,
      ⟨(some 11), .len .str (.t 10), none, [10]⟩,
      ⟨(some 12), .bin (.int .lss) (.t 6) (.t 11), none, [6, 11]⟩,
      ⟨(some 13), .mv (.t 12), none, [12]⟩,
      ⟨(some 14), .mv (.t 0), (some (13, true)), [0, 13]⟩,
      ⟨(some 15), .nilck (.t 14), (some (13, true)), [14, 13]⟩,
      ⟨(some 16), .fa 0 (.t 15), (some (13, true)), [15, 13]⟩,
      ⟨(some 17), .ld1 (.t 16), (some (13, true)), [16, 13]⟩,
      ⟨(some 18), .mv (.t 0), (some (13, true)), [0, 13]⟩,
      ⟨(some 19), .nilck (.t 18), (some (13, true)), [18, 13]⟩,
      ⟨(some 20), .fa 1 (.t 19), (some (13, true)), [19, 13]⟩,
      ⟨(some 21), .ld1 (.t 20), (some (13, true)), [20, 13]⟩,
      ⟨(some 22), .ixs (.t 17) (.t 21), (some (13, true)), [17, 21, 13]⟩,
      ⟨(some 23), .call 53 [(.t 22)], (some (13, true)), [22, 13]⟩,
      ⟨(some 24), .pick (.t 13) (.t 23) (.c (.bool false)), none, [13, 23]⟩] [(3, [20]), (7, [20]), (14, [20]), (18, [20])])
   (RC.cond (.t 24)
    (RC.skip)
    (RC.exit 0)))
  (RC.block 1 (RC.reg [⟨(some 25), .mv (.t 0), none, [0]⟩,
     ⟨(some 26), .nilck (.t 25), none, [25]⟩,
     ⟨(some 27), .fa 1 (.t 26), none, [26]⟩,
     ⟨(some 28), .ld1 (.t 27), none, [27]⟩,
     ⟨(some 29), .bin (.int .add) (.t 28) (.c (.int .i64 1)), none, [28]⟩,
     ⟨(some 30), .nilck (.t 25), none, [25]⟩,
     ⟨(some 31), .fa 1 (.t 30), none, [30]⟩,
     ⟨none, .st 1 (.t 31) (.t 29), none, [31, 29]⟩]))
def c29 : RC :=
  RC.seq (RC.block 0 (RC.loop c29l1))
  (RC.seq (RC.draw [⟨(some 32), .mv (.t 0), none, [0]⟩,
     ⟨(some 33), .nilck (.t 32), none, [32]⟩,
     ⟨(some 34), .fa 0 (.t 33), none, [33]⟩,
     ⟨(some 35), .ld1 (.t 34), none, [34]⟩,
     ⟨(some 36), .mv (.t 0), none, [0]⟩,
     ⟨(some 37), .nilck (.t 36), none, [36]⟩,
     ⟨(some 38), .fa 2 (.t 37), none, [37]⟩,
     ⟨(some 39), .ld1 (.t 38), none, [38]⟩,
     ⟨(some 40), .mv (.t 0), none, [0]⟩,
     ⟨(some 41), .nilck (.t 40), none, [40]⟩,
     ⟨(some 42), .fa 1 (.t 41), none, [41]⟩,
     ⟨(some 43), .ld1 (.t 42), none, [42]⟩,
     ⟨(some 44), .slstr (.t 35) (some (.t 39)) (some (.t 43)) none, none, [35, 39, 43]⟩,
     ⟨(some 2), .mv (.t 44), none, [44]⟩] [])
  (RC.seq (RC.seq (RC.reg [⟨(some 45), .mv (.t 2), none, [2]⟩,
      ⟨(some 46), .len .str (.t 45), none, [45]⟩,
      ⟨(some 47), .bin (.int .gtr) (.t 46) (.c (.int .i64 64)), none, [46]⟩])
   (RC.cond (.t 47)
    (RC.reg [⟨(some 48), .mv (.t 0), none, [0]⟩,
       ⟨(some 49), .nilck (.t 48), none, [48]⟩,
       ⟨(some 50), .fa 3 (.t 49), none, [49]⟩,
       ⟨none, .st 1 (.t 50) (.c (.int .i64 255)), none, [50]⟩])
    (RC.skip)))
  (RC.block 2 (RC.seq (RC.reg [⟨(some 55), .mv (.t 2), none, [2]⟩,
      ⟨(some 56), .call 55 [], none, []⟩,
      ⟨(some 57), .call 54 [(.t 55), (.t 56)], none, [55, 56]⟩,
      ⟨(some 54), .mv (.t 57), none, [57]⟩])
   (RC.cond (.t 54)
    (RC.reg [⟨(some 58), .mv (.t 0), none, [0]⟩,
       ⟨(some 59), .mv (.t 2), none, [2]⟩,
       ⟨(some 60), .call 56 [(.t 58), (.c (.int .i64 6)), (.c (.int .i64 0)), (.t 59)], none, [58, 59]⟩])
    (RC.seq (RC.reg [⟨(some 62), .mv (.t 2), none, [2]⟩,
        ⟨(some 63), .bin (.str .eql) (.t 62) (.c (.str [95])), none, [62]⟩,
        ⟨(some 61), .mv (.t 63), none, [63]⟩])
     (RC.cond (.t 61)
      (RC.reg [⟨(some 64), .mv (.t 0), none, [0]⟩,
         ⟨(some 65), .mv (.t 2), none, [2]⟩,
         ⟨(some 66), .call 56 [(.t 64), (.c (.int .i64 7)), (.c (.int .i64 0)), (.t 65)], none, [64, 65]⟩])
      (RC.seq (RC.reg [⟨(some 68), .mv (.t 2), none, [2]⟩,
          ⟨(some 69), .ixs (.t 68) (.c (.int .i64 0)), none, [68]⟩,
          ⟨(some 70), .call 28 [(.t 69), (.c (.int .u8 65)), (.c (.int .u8 90))], none, [69]⟩,
          ⟨(some 67), .mv (.t 70), none, [70]⟩])
       (RC.cond (.t 67)
        (RC.reg [⟨(some 71), .mv (.t 0), none, [0]⟩,
           ⟨(some 72), .mv (.t 2), none, [2]⟩,
           ⟨(some 73), .call 56 [(.t 71), (.c (.int .i64 4)), (.c (.int .i64 0)), (.t 72)], none, [71, 72]⟩])
        (RC.reg [⟨(some 51), .mv (.t 0), none, [0]⟩,
           ⟨(some 52), .mv (.t 2), none, [2]⟩,
           ⟨(some 53), .call 56 [(.t 51), (.c (.int .i64 3)), (.c (.int .i64 0)), (.t 52)], none, [51, 52]⟩]))))))))))
theorem c29_ok : resK Tryd.prog Tryd.f29.ntmps (Tryd.f29.body.getD .skip) = c29 := by kernel_rfl
theorem c29_res : resR Tryd.prog Tryd.f29.ntmps Tryd.f29.results.toList = [] := by kernel_rfl
theorem c29_ctr {args : List V} {h : Heap} {K : V → Heap → Prop} (hl : Nat.ble args.length 74 = true) (H : wpC Tryd.prog c29 (RF.ofL args) h fun e r h' => e.ends ∧ ∃ vs, evR r h' [] = some vs ∧ K (oneOf vs) h') : Ctr Tryd.prog 29 args h K :=
  ctr_of_wp follows namesOk Tryd.func29 (c := Tryd.f29.body.getD .skip) (by kernel_rfl) (by kernel_rfl) hl c29_ok c29_res H

/-- (*gimlet/gimletref15.reader).number -/
def c30l1 : RC :=
  RC.seq (RC.seq (RC.draw [⟨(some 3), .mv (.t 0), none, [0]⟩,
      ⟨(some 4), .nilck (.t 3), none, [3]⟩,
      ⟨(some 5), .fa 1 (.t 4), none, [4]⟩,
      ⟨(some 6), .ld1 (.t 5), none, [5]⟩,
      ⟨(some 7), .mv (.t 0), none, [0]⟩,
      ⟨(some 8), .nilck (.t 7), none, [7]⟩,
      ⟨(some 9), .fa 0 (.t 8), none, [8]⟩,
      ⟨(some 10), .ld1 (.t 9), none, [9]⟩,
      ⟨(some 11), .len .str (.t 10), none, [10]⟩,
      ⟨(some 12), .bin (.int .lss) (.t 6) (.t 11), none, [6, 11]⟩,
      ⟨(some 13), .mv (.t 12), none, [12]⟩,
      ⟨(some 14), .mv (.t 0), (some (13, true)), [0, 13]⟩,
      ⟨(some 15), .nilck (.t 14), (some (13, true)), [14, 13]⟩,
      ⟨(some 16), .fa 0 (.t 15), (some (13, true)), [15, 13]⟩,
      ⟨(some 17), .ld1 (.t 16), (some (13, true)), [16, 13]⟩,
      ⟨(some 18), .mv (.t 0), (some (13, true)), [0, 13]⟩,
      ⟨(some 19), .nilck (.t 18), (some (13, true)), [18, 13]⟩,
      ⟨(some 20), .fa 1 (.t 19), (some (13, true)), [19, 13]⟩,
      ⟨(some 21), .ld1 (.t 20), (some (13, true)), [20, 13]⟩,
      ⟨(some 22), .ixs (.t 17) (.t 21), (some (13, true)), [17, 21, 13]⟩,
      ⟨(some 23), .call 28 [(.t 22), (.c (.int .u8 48)), (.c (.int .u8 57))], (some (13, true)), [22, 13]⟩,
      ⟨(some 24), .pick (.t 13) (.t 23) (.c (.bool false)), none, [13, 23]⟩] [(3, [20]), (7, [20]), (14, [20]), (18, [20])])
   (RC.cond (.t 24)
    (RC.skip)
    (RC.exit 0)))
  (RC.block 1 (RC.seq (RC.draw [⟨(some 25), .mv (.t 2), none, [2]⟩,
      ⟨(some 26), .bin (.int .mul) (.c (.int .i64 10)) (.t 25), none, [25]⟩,
      ⟨(some 27), .mv (.t 0), none, [0]⟩,
      ⟨(some 28), .nilck (.t 27), none, [27]⟩,
      ⟨(some 29), .fa 0 (.t 28), none, [28]⟩,
      ⟨(some 30), .ld1 (.t 29), none, [29]⟩,
      ⟨(some 31), .mv (.t 0), none, [0]⟩,
      ⟨(some 32), .nilck (.t 31), none, [31]⟩,
      ⟨(some 33), .fa 1 (.t 32), none, [32]⟩,
      ⟨(some 34), .ld1 (.t 33), none, [33]⟩,
      ⟨(some 35), .ixs (.t 30) (.t 34), none, [30, 34]⟩,
      ⟨(some 36), .bin (.int .sub) (.t 35) (.c (.int .u8 48)), none, [35]⟩,
      ⟨(some 37), .cv (.int .i64) (.t 36), none, [36]⟩,
      ⟨(some 38), .bin (.int .add) (.t 26) (.t 37), none, [26, 37]⟩,
      ⟨(some 2), .mv (.t 38), none, [38]⟩] [])
   (RC.seq (RC.seq (RC.reg [⟨(some 39), .mv (.t 2), none, [2]⟩,
       ⟨(some 40), .bin (.int .geq) (.t 39) (.c (.int .i64 2147483648)), none, [39]⟩])
    (RC.cond (.t 40)
     (RC.seq (RC.reg [⟨(some 41), .mv (.t 0), none, [0]⟩,
         ⟨(some 42), .nilck (.t 41), none, [41]⟩,
         ⟨(some 43), .fa 3 (.t 42), none, [42]⟩,
         ⟨none, .st 1 (.t 43) (.c (.int .i64 254)), none, [43]⟩])
      (RC.reg [⟨(some 2), .mv (.c (.int .i64 0)), none, []⟩]))
     (RC.skip)))
   (RC.reg [⟨(some 44), .mv (.t 0), none, [0]⟩,
     ⟨(some 45), .nilck (.t 44), none, [44]⟩,
     ⟨(some 46), .fa 1 (.t 45), none, [45]⟩,
     ⟨(some 47), .ld1 (.t 46), none, [46]⟩,
     ⟨(some 48), .bin (.int .add) (.t 47) (.c (.int .i64 1)), none, [47]⟩,
     ⟨(some 49), .nilck (.t 44), none, [44]⟩,
     ⟨(some 50), .fa 1 (.t 49), none, [49]⟩,
     ⟨none, .st 1 (.t 50) (.t 48), none, [50, 48]⟩]))))
def c30 : RC :=
  RC.seq (RC.reg [⟨(some 2), .mv (.c (.int .i64 0)), none, []⟩])
  (RC.seq (RC.block 0 (RC.loop c30l1))
  (RC.reg [⟨(some 51), .mv (.t 0), none, [0]⟩,
    ⟨(some 52), .mv (.t 2), none, [2]⟩,
    ⟨(some 53), .call 57 [(.t 52)], none, [52]⟩,
    ⟨(some 54), .call 56 [(.t 51), (.c (.int .i64 1)), (.t 53), (.c (.str []))], none, [51, 53]⟩]))
theorem c30_ok : resK Tryd.prog Tryd.f30.ntmps (Tryd.f30.body.getD .skip) = c30 := by kernel_rfl
theorem c30_res : resR Tryd.prog Tryd.f30.ntmps Tryd.f30.results.toList = [] := by kernel_rfl
theorem c30_ctr {args : List V} {h : Heap} {K : V → Heap → Prop} (hl : Nat.ble args.length 55 = true) (H : wpC Tryd.prog c30 (RF.ofL args) h fun e r h' => e.ends ∧ ∃ vs, evR r h' [] = some vs ∧ K (oneOf vs) h') : Ctr Tryd.prog 30 args h K :=
  ctr_of_wp follows namesOk Tryd.func30 (c := Tryd.f30.body.getD .skip) (by kernel_rfl) (by kernel_rfl) hl c30_ok c30_res H

/-- (*gimlet/gimletref15.reader).variable -/
def c31l1 : RC :=
  RC.seq (RC.seq (RC.draw [⟨(some 15), .mv (.t 0), none, [0]⟩,
      ⟨(some 16), .nilck (.t 15), none, [15]⟩,
      ⟨(some 17), .fa 1 (.t 16), none, [16]⟩,
      ⟨(some 18), .ld1 (.t 17), none, [17]⟩,
      ⟨(some 19), .mv (.t 0), none, [0]⟩,
      ⟨(some 20), .nilck (.t 19), none, [19]⟩,
      ⟨(some 21), .fa 0 (.t 20), none, [20]⟩,
      ⟨(some 22), .ld1 (.t 21), none, [21]⟩,
      ⟨(some 23), .len .str (.t 22), none, [22]⟩,
      ⟨(some 24), .bin (.int .lss) (.t 18) (.t 23), none, [18, 23]⟩,
      ⟨(some 25), .mv (.t 24), none, [24]⟩,
      ⟨(some 26), .mv (.t 0), (some (25, true)), [0, 25]⟩,
      ⟨(some 27), .nilck (.t 26), (some (25, true)), [26, 25]⟩,
      ⟨(some 28), .fa 0 (.t 27), (some (25, true)), [27, 25]⟩,
      ⟨(some 29), .ld1 (.t 28), (some (25, true)), [28, 25]⟩,
      ⟨(some 30), .mv (.t 0), (some (25, true)), [0, 25]⟩,
      ⟨(some 31), .nilck (.t 30), (some (25, true)), [30, 25]⟩,
      ⟨(some 32), .fa 1 (.t 31), (some (25, true)), [31, 25]⟩,
      ⟨(some 33), .ld1 (.t 32), (some (25, true)), [32, 25]⟩,
      ⟨(some 34), .ixs (.t 29) (.t 33), (some (25, true)), [29, 33, 25]⟩,
      ⟨(some 35), .call 53 [(.t 34)], (some (25, true)), [34, 25]⟩,
      ⟨(some 36), .pick (.t 25) (.t 35) (.c (.bool false)), none, [25, 35]⟩] [(3, [20]), (7, [20]), (14, [20]), (18, [20])])
   (RC.cond (.t 36)
    (RC.skip)
    (RC.exit 0)))
  (RC.block 1 (RC.reg [⟨(some 37), .mv (.t 0), none, [0]⟩,
     ⟨(some 38), .nilck (.t 37), none, [37]⟩,
     ⟨(some 39), .fa 1 (.t 38), none, [38]⟩,
     ⟨(some 40), .ld1 (.t 39), none, [39]⟩,
     ⟨(some 41), .bin (.int .add) (.t 40) (.c (.int .i64 1)), none, [40]⟩,
     ⟨(some 42), .nilck (.t 37), none, [37]⟩,
     ⟨(some 43), .fa 1 (.t 42), none, [42]⟩,
     ⟨none, .st 1 (.t 43) (.t 41), none, [43, 41]⟩]))
def c31 : RC :=
  RC.seq (RC.reg [⟨(some 4), .mv (.t 0), none, [0]⟩,
     ⟨(some 5), .nilck (.t 4), none, [4]⟩,
     ⟨(some 6), .fa 1 (.t 5), none, [5]⟩,
     ⟨(some 7), .ld1 (.t 6), none, [6]⟩,
     ⟨(some 8), .bin (.int .add) (.t 7) (.c (.int .i64 1)), none, [7]⟩,
     ⟨(some 9), .nilck (.t 4), none, [4]⟩,
     ⟨(some 10), .fa 1 (.t 9), none, [9]⟩,
     ⟨none, .st 1 (.t 10) (.t 8), none, [10, 8]⟩])
  (RC.seq (RC.reg [⟨(some 11), .mv (.t 0), none, [0]⟩,
     ⟨(some 12), .nilck (.t 11), none, [11]⟩,
     ⟨(some 13), .fa 1 (.t 12), none, [12]⟩,
     ⟨(some 14), .ld1 (.t 13), none, [13]⟩,
     ⟨(some 2), .mv (.t 14), none, [14]⟩])
  (RC.seq (RC.block 0 (RC.loop c31l1))
  (RC.seq (RC.draw [⟨(some 44), .mv (.t 0), none, [0]⟩,
     ⟨(some 45), .nilck (.t 44), none, [44]⟩,
     ⟨(some 46), .fa 0 (.t 45), none, [45]⟩,
     ⟨(some 47), .ld1 (.t 46), none, [46]⟩,
     ⟨(some 48), .mv (.t 2), none, [2]⟩,
     ⟨(some 49), .mv (.t 0), none, [0]⟩,
     ⟨(some 50), .nilck (.t 49), none, [49]⟩,
     ⟨(some 51), .fa 1 (.t 50), none, [50]⟩,
     ⟨(some 52), .ld1 (.t 51), none, [51]⟩,
     ⟨(some 53), .slstr (.t 47) (some (.t 48)) (some (.t 52)) none, none, [47, 48, 52]⟩,
     ⟨(some 3), .mv (.t 53), none, [53]⟩] [])
  (RC.seq (RC.seq (RC.reg [⟨(some 54), .mv (.t 3), none, [3]⟩,
      ⟨(some 55), .bin (.str .eql) (.t 54) (.c (.str [])), none, [54]⟩,
      ⟨(some 56), .mv (.t 55), none, [55]⟩,
      ⟨(some 57), .mv (.t 3), (some (56, false)), [3, 56]⟩,
      ⟨(some 58), .ixs (.t 57) (.c (.int .i64 0)), (some (56, false)), [57, 56]⟩,
      ⟨(some 59), .call 28 [(.t 58), (.c (.int .u8 97)), (.c (.int .u8 122))], (some (56, false)), [58, 56]⟩,
      ⟨(some 60), .un .not (.t 59), (some (56, false)), [59, 56]⟩,
      ⟨(some 61), .pick (.t 56) (.c (.bool true)) (.t 60), none, [56, 60]⟩])
   (RC.cond (.t 61)
    (RC.seq (RC.reg [⟨(some 62), .mv (.t 0), none, [0]⟩,
        ⟨(some 63), .nilck (.t 62), none, [62]⟩,
        ⟨(some 64), .fa 3 (.t 63), none, [63]⟩,
        ⟨none, .st 1 (.t 64) (.c (.int .i64 251)), none, [64]⟩])
     (RC.ret))
    (RC.skip)))
  (RC.seq (RC.seq (RC.reg [⟨(some 65), .mv (.t 3), none, [3]⟩,
      ⟨(some 66), .len .str (.t 65), none, [65]⟩,
      ⟨(some 67), .bin (.int .gtr) (.t 66) (.c (.int .i64 64)), none, [66]⟩])
   (RC.cond (.t 67)
    (RC.reg [⟨(some 68), .mv (.t 0), none, [0]⟩,
       ⟨(some 69), .nilck (.t 68), none, [68]⟩,
       ⟨(some 70), .fa 3 (.t 69), none, [69]⟩,
       ⟨none, .st 1 (.t 70) (.c (.int .i64 255)), none, [70]⟩])
    (RC.skip)))
  (RC.reg [⟨(some 71), .mv (.t 0), none, [0]⟩,
    ⟨(some 72), .mv (.t 3), none, [3]⟩,
    ⟨(some 73), .call 56 [(.t 71), (.c (.int .i64 5)), (.c (.int .i64 0)), (.t 72)], none, [71, 72]⟩]))))))
theorem c31_ok : resK Tryd.prog Tryd.f31.ntmps (Tryd.f31.body.getD .skip) = c31 := by kernel_rfl
theorem c31_res : resR Tryd.prog Tryd.f31.ntmps Tryd.f31.results.toList = [] := by kernel_rfl
theorem c31_ctr {args : List V} {h : Heap} {K : V → Heap → Prop} (hl : Nat.ble args.length 74 = true) (H : wpC Tryd.prog c31 (RF.ofL args) h fun e r h' => e.ends ∧ ∃ vs, evR r h' [] = some vs ∧ K (oneOf vs) h') : Ctr Tryd.prog 31 args h K :=
  ctr_of_wp follows namesOk Tryd.func31 (c := Tryd.f31.body.getD .skip) (by kernel_rfl) (by kernel_rfl) hl c31_ok c31_res H

/-- (*gimlet/gimletref15.reader).text -/
def c32l1 : RC :=
  RC.seq (RC.seq (RC.draw [⟨(some 11), .mv (.t 0), none, [0]⟩,
      ⟨(some 12), .nilck (.t 11), none, [11]⟩,
      ⟨(some 13), .fa 3 (.t 12), none, [12]⟩,
      ⟨(some 14), .ld1 (.t 13), none, [13]⟩,
      ⟨(some 15), .bin (.int .eql) (.t 14) (.c (.int .i64 0)), none, [14]⟩,
      ⟨(some 16), .mv (.t 15), none, [15]⟩,
      ⟨(some 17), .mv (.t 0), (some (16, true)), [0, 16]⟩,
      ⟨(some 18), .nilck (.t 17), (some (16, true)), [17, 16]⟩,
      ⟨(some 19), .fa 1 (.t 18), (some (16, true)), [18, 16]⟩,
      ⟨(some 20), .ld1 (.t 19), (some (16, true)), [19, 16]⟩,
      ⟨(some 21), .mv (.t 0), (some (16, true)), [0, 16]⟩,
      ⟨(some 22), .nilck (.t 21), (some (16, true)), [21, 16]⟩,
      ⟨(some 23), .fa 0 (.t 22), (some (16, true)), [22, 16]⟩,
      ⟨(some 24), .ld1 (.t 23), (some (16, true)), [23, 16]⟩,
      ⟨(some 25), .len .str (.t 24), (some (16, true)), [24, 16]⟩,
      ⟨(some 26), .bin (.int .lss) (.t 20) (.t 25), (some (16, true)), [20, 25, 16]⟩,
      ⟨(some 27), .pick (.t 16) (.t 26) (.c (.bool false)), none, [16, 26]⟩,
      ⟨(some 28), .mv (.t 27), none, [27]⟩,
      ⟨(some 29), .mv (.t 0), (some (28, true)), [0, 28]⟩,
      ⟨(some 30), .nilck (.t 29), (some (28, true)), [29, 28]⟩,
      ⟨(some 31), .fa 0 (.t 30), (some (28, true)), [30, 28]⟩,
      ⟨(some 32), .ld1 (.t 31), (some (28, true)), [31, 28]⟩,
      ⟨(some 33), .mv (.t 0), (some (28, true)), [0, 28]⟩,
      ⟨(some 34), .nilck (.t 33), (some (28, true)), [33, 28]⟩,
      ⟨(some 35), .fa 1 (.t 34), (some (28, true)), [34, 28]⟩,
      ⟨(some 36), .ld1 (.t 35), (some (28, true)), [35, 28]⟩,
      ⟨(some 37), .ixs (.t 32) (.t 36), (some (28, true)), [32, 36, 28]⟩,
      ⟨(some 38), .bin (.int .neq) (.t 37) (.c (.int .u8 34)), (some (28, true)), [37, 28]⟩,
      ⟨(some 39), .pick (.t 28) (.t 38) (.c (.bool false)), none, [28, 38]⟩] [])
   (RC.cond (.t 39)
    (RC.skip)
    (RC.exit 0)))
  (RC.block 1 (RC.seq (RC.draw [⟨(some 40), .mv (.t 0), none, [0]⟩,
      ⟨(some 41), .nilck (.t 40), none, [40]⟩,
      ⟨(some 42), .fa 0 (.t 41), none, [41]⟩,
      ⟨(some 43), .ld1 (.t 42), none, [42]⟩,
      ⟨(some 44), .mv (.t 0), none, [0]⟩,
      ⟨(some 45), .nilck (.t 44), none, [44]⟩,
      ⟨(some 46), .fa 1 (.t 45), none, [45]⟩,
      ⟨(some 47), .ld1 (.t 46), none, [46]⟩,
      ⟨(some 48), .ixs (.t 43) (.t 47), none, [43, 47]⟩,
      ⟨(some 3), .mv (.t 48), none, [48]⟩] [])
   (RC.seq (RC.reg [⟨(some 49), .mv (.t 0), none, [0]⟩,
      ⟨(some 50), .nilck (.t 49), none, [49]⟩,
      ⟨(some 51), .fa 1 (.t 50), none, [50]⟩,
      ⟨(some 52), .ld1 (.t 51), none, [51]⟩,
      ⟨(some 53), .bin (.int .add) (.t 52) (.c (.int .i64 1)), none, [52]⟩,
      ⟨(some 54), .nilck (.t 49), none, [49]⟩,
      ⟨(some 55), .fa 1 (.t 54), none, [54]⟩,
      ⟨none, .st 1 (.t 55) (.t 53), none, [55, 53]⟩])
   (RC.seq (RC.seq (RC.reg [⟨(some 56), .mv (.t 3), none, [3]⟩,
       ⟨(some 57), .bin (.int .eql) (.t 56) (.c (.int .u8 92)), none, [56]⟩])
    (RC.cond (.t 57)
     (RC.reg [⟨(some 58), .mv (.t 0), none, [0]⟩,
        ⟨(some 59), .call 58 [(.t 58)], none, [58]⟩,
        ⟨(some 3), .mv (.t 59), none, [59]⟩])
     (RC.seq (RC.reg [⟨(some 60), .mv (.t 3), none, [3]⟩,
         ⟨(some 61), .bin (.int .lss) (.t 60) (.c (.int .u8 32)), none, [60]⟩,
         ⟨(some 62), .mv (.t 61), none, [61]⟩,
         ⟨(some 63), .mv (.t 3), (some (62, false)), [3, 62]⟩,
         ⟨(some 64), .bin (.int .eql) (.t 63) (.c (.int .u8 127)), (some (62, false)), [63, 62]⟩,
         ⟨(some 65), .pick (.t 62) (.c (.bool true)) (.t 64), none, [62, 64]⟩])
      (RC.cond (.t 65)
       (RC.reg [⟨(some 66), .mv (.t 0), none, [0]⟩,
          ⟨(some 67), .nilck (.t 66), none, [66]⟩,
          ⟨(some 68), .fa 3 (.t 67), none, [67]⟩,
          ⟨none, .st 1 (.t 68) (.c (.int .i64 252)), none, [68]⟩])
       (RC.skip)))))
   (RC.reg [⟨(some 69), .mv (.t 2), none, [2]⟩,
     ⟨(some 70), .mv (.t 3), none, [3]⟩,
     ⟨(some 71), .bsl 1 1 [(.int .u8 0)] [(0, 1, (.t 70))], none, [70]⟩,
     ⟨(some 72), .app 1 (.t 69) (.t 71), none, [69, 71]⟩,
     ⟨(some 2), .mv (.t 72), none, [72]⟩])))))
def c32 : RC :=
  RC.seq (RC.reg [⟨(some 2), .mv (.c .nilslice), none, []⟩])
  (RC.seq (RC.reg [⟨(some 4), .mv (.t 0), none, [0]⟩,
     ⟨(some 5), .nilck (.t 4), none, [4]⟩,
     ⟨(some 6), .fa 1 (.t 5), none, [5]⟩,
     ⟨(some 7), .ld1 (.t 6), none, [6]⟩,
     ⟨(some 8), .bin (.int .add) (.t 7) (.c (.int .i64 1)), none, [7]⟩,
     ⟨(some 9), .nilck (.t 4), none, [4]⟩,
     ⟨(some 10), .fa 1 (.t 9), none, [9]⟩,
     ⟨none, .st 1 (.t 10) (.t 8), none, [10, 8]⟩])
  (RC.seq (RC.block 0 (RC.loop c32l1))
  (RC.seq (RC.seq (RC.draw [⟨(some 73), .mv (.t 0), none, [0]⟩,
      ⟨(some 74), .nilck (.t 73), none, [73]⟩,
      ⟨(some 75), .fa 3 (.t 74), none, [74]⟩,
      ⟨(some 76), .ld1 (.t 75), none, [75]⟩,
      ⟨(some 77), .bin (.int .eql) (.t 76) (.c (.int .i64 0)), none, [76]⟩,
      ⟨(some 78), .mv (.t 77), none, [77]⟩,
      ⟨(some 79), .mv (.t 0), (some (78, true)), [0, 78]⟩,
      ⟨(some 80), .nilck (.t 79), (some (78, true)), [79, 78]⟩,
      ⟨(some 81), .fa 1 (.t 80), (some (78, true)), [80, 78]⟩,
      ⟨(some 82), .ld1 (.t 81), (some (78, true)), [81, 78]⟩,
      ⟨(some 83), .mv (.t 0), (some (78, true)), [0, 78]⟩,
      ⟨(some 84), .nilck (.t 83), (some (78, true)), [83, 78]⟩,
      ⟨(some 85), .fa 0 (.t 84), (some (78, true)), [84, 78]⟩,
      ⟨(some 86), .ld1 (.t 85), (some (78, true)), [85, 78]⟩,
      ⟨(some 87), .len .str (.t 86), (some (78, true)), [86, 78]⟩,
      ⟨(some 88), .bin (.int .geq) (.t 82) (.t 87), (some (78, true)), [82, 87, 78]⟩,
      ⟨(some 89), .pick (.t 78) (.t 88) (.c (.bool false)), none, [78, 88]⟩] [])
   (RC.cond (.t 89)
    (RC.reg [⟨(some 90), .mv (.t 0), none, [0]⟩,
       ⟨(some 91), .nilck (.t 90), none, [90]⟩,
       ⟨(some 92), .fa 3 (.t 91), none, [91]⟩,
       ⟨none, .st 1 (.t 92) (.c (.int .i64 252)), none, [92]⟩])
    (RC.skip)))
  (RC.seq (RC.reg [⟨(some 93), .mv (.t 0), none, [0]⟩,
     ⟨(some 94), .nilck (.t 93), none, [93]⟩,
     ⟨(some 95), .fa 1 (.t 94), none, [94]⟩,
     ⟨(some 96), .ld1 (.t 95), none, [95]⟩,
     ⟨(some 97), .bin (.int .add) (.t 96) (.c (.int .i64 1)), none, [96]⟩,
     ⟨(some 98), .nilck (.t 93), none, [93]⟩,
     ⟨(some 99), .fa 1 (.t 98), none, [98]⟩,
     ⟨none, .st 1 (.t 99) (.t 97), none, [99, 97]⟩])
  (RC.seq (RC.seq (RC.reg [⟨(some 100), .mv (.t 0), none, [0]⟩,
      ⟨(some 101), .nilck (.t 100), none, [100]⟩,
      ⟨(some 102), .fa 3 (.t 101), none, [101]⟩,
      ⟨(some 103), .ld1 (.t 102), none, [102]⟩,
      ⟨(some 104), .bin (.int .eql) (.t 103) (.c (.int .i64 0)), none, [103]⟩,
      ⟨(some 105), .mv (.t 104), none, [104]⟩,
      ⟨(some 106), .mv (.t 2), (some (105, true)), [2, 105]⟩,
      ⟨(some 107), .len .slice (.t 106), (some (105, true)), [106, 105]⟩,
      ⟨(some 108), .bin (.int .gtr) (.t 107) (.c (.int .i64 4096)), (some (105, true)), [107, 105]⟩,
      ⟨(some 109), .pick (.t 105) (.t 108) (.c (.bool false)), none, [105, 108]⟩])
   (RC.cond (.t 109)
    (RC.reg [⟨(some 110), .mv (.t 0), none, [0]⟩,
       ⟨(some 111), .nilck (.t 110), none, [110]⟩,
       ⟨(some 112), .fa 3 (.t 111), none, [111]⟩,
       ⟨none, .st 1 (.t 112) (.c (.int .i64 255)), none, [112]⟩])
    (RC.skip)))
  (RC.reg [⟨(some 113), .mv (.t 0), none, [0]⟩,
    ⟨(some 114), .mv (.t 2), none, [2]⟩,
    ⟨(some 115), .cv .str (.t 114), none, [114]⟩,
    ⟨(some 116), .call 56 [(.t 113), (.c (.int .i64 2)), (.c (.int .i64 0)), (.t 115)], none, [113, 115]⟩]))))))
theorem c32_ok : resK Tryd.prog Tryd.f32.ntmps (Tryd.f32.body.getD .skip) = c32 := by kernel_rfl
theorem c32_res : resR Tryd.prog Tryd.f32.ntmps Tryd.f32.results.toList = [] := by kernel_rfl
theorem c32_ctr {args : List V} {h : Heap} {K : V → Heap → Prop} (hl : Nat.ble args.length 117 = true) (H : wpC Tryd.prog c32 (RF.ofL args) h fun e r h' => e.ends ∧ ∃ vs, evR r h' [] = some vs ∧ K (oneOf vs) h') : Ctr Tryd.prog 32 args h K :=
  ctr_of_wp follows namesOk Tryd.func32 (c := Tryd.f32.body.getD .skip) (by kernel_rfl) (by kernel_rfl) hl c32_ok c32_res H

/-- (*gimlet/gimletref15.reader).sign -/
def c33l1 : RC :=
  RC.seq (RC.seq (RC.reg [⟨(some 5), .mv (.t 3), none, [3]⟩,
      ⟨(some 6), .mv (.t 2), none, [2]⟩,
      ⟨(some 7), .len .slice (.t 6), none, [6]⟩,
      ⟨(some 8), .bin (.int .lss) (.t 5) (.t 7), none, [5, 7]⟩])
   (RC.cond (.t 8)
    (RC.skip)
    (RC.exit 0)))
  (RC.seq (RC.block 1 (RC.seq (RC.reg [⟨(some 11), .mv (.t 0), none, [0]⟩,
       ⟨(some 12), .mv (.t 2), none, [2]⟩,
       ⟨(some 13), .mv (.t 3), none, [3]⟩,
       ⟨(some 14), .ia 1 (.t 12) (.t 13), none, [12, 13]⟩,
       ⟨(some 15), .ld1 (.t 14), none, [14]⟩,
       ⟨(some 16), .call 51 [(.t 11), (.t 15)], none, [11, 15]⟩])
    (RC.cond (.t 16)
     (RC.seq (RC.draw [⟨(some 17), .mv (.t 0), none, [0]⟩,
         ⟨(some 18), .mv (.t 0), none, [0]⟩,
         ⟨(some 19), .nilck (.t 18), none, [18]⟩,
         ⟨(some 20), .fa 1 (.t 19), none, [19]⟩,
         ⟨(some 21), .ld1 (.t 20), none, [20]⟩,
         ⟨(some 22), .mv (.t 2), none, [2]⟩,
         ⟨(some 23), .mv (.t 3), none, [3]⟩,
         ⟨(some 24), .ia 1 (.t 22) (.t 23), none, [22, 23]⟩,
         ⟨(some 25), .ld1 (.t 24), none, [24]⟩,
         ⟨(some 26), .len .str (.t 25), none, [25]⟩,
         ⟨(some 27), .bin (.int .add) (.t 21) (.t 26), none, [21, 26]⟩,
         ⟨(some 28), .nilck (.t 17), none, [17]⟩,
         ⟨(some 29), .fa 1 (.t 28), none, [28]⟩,
         ⟨none, .st 1 (.t 29) (.t 27), none, [29, 27]⟩] [(4, [13]), (8, [13])])
      (RC.seq (RC.reg [⟨(some 30), .mv (.t 0), none, [0]⟩,
         ⟨(some 31), .mv (.t 2), none, [2]⟩,
         ⟨(some 32), .mv (.t 3), none, [3]⟩,
         ⟨(some 33), .ia 1 (.t 31) (.t 32), none, [31, 32]⟩,
         ⟨(some 34), .ld1 (.t 33), none, [33]⟩,
         ⟨(some 35), .call 56 [(.t 30), (.c (.int .i64 7)), (.c (.int .i64 0)), (.t 34)], none, [30, 34]⟩])
      (RC.ret)))
     (RC.skip))))
  (RC.reg [⟨(some 9), .mv (.t 3), none, [3]⟩,
    ⟨(some 10), .bin (.int .add) (.t 9) (.c (.int .i64 1)), none, [9]⟩,
    ⟨(some 3), .mv (.t 10), none, [10]⟩]))
def c33 : RC :=
  RC.seq (RC.reg [⟨(some 4), .call 59 [], none, []⟩,
     ⟨(some 2), .mv (.t 4), none, [4]⟩])
  (RC.seq (RC.seq (RC.reg [⟨(some 3), .mv (.c (.int .i64 0)), none, []⟩])
   (RC.block 0 (RC.loop c33l1)))
  (RC.reg [⟨(some 36), .mv (.t 0), none, [0]⟩,
    ⟨(some 37), .nilck (.t 36), none, [36]⟩,
    ⟨(some 38), .fa 3 (.t 37), none, [37]⟩,
    ⟨none, .st 1 (.t 38) (.c (.int .i64 251)), none, [38]⟩]))
theorem c33_ok : resK Tryd.prog Tryd.f33.ntmps (Tryd.f33.body.getD .skip) = c33 := by kernel_rfl
theorem c33_res : resR Tryd.prog Tryd.f33.ntmps Tryd.f33.results.toList = [] := by kernel_rfl
theorem c33_ctr {args : List V} {h : Heap} {K : V → Heap → Prop} (hl : Nat.ble args.length 39 = true) (H : wpC Tryd.prog c33 (RF.ofL args) h fun e r h' => e.ends ∧ ∃ vs, evR r h' [] = some vs ∧ K (oneOf vs) h') : Ctr Tryd.prog 33 args h K :=
  ctr_of_wp follows namesOk Tryd.func33 (c := Tryd.f33.body.getD .skip) (by kernel_rfl) (by kernel_rfl) hl c33_ok c33_res H

/-- gimlet/gimletref15.char -/
def c35l1 : RC :=
  RC.seq (RC.seq (RC.reg [⟨(some 36), .mv (.t 8), none, [8]⟩,
      ⟨(some 37), .mv (.t 5), none, [5]⟩,
      ⟨(some 38), .bin (.int .lss) (.t 36) (.t 37), none, [36, 37]⟩])
   (RC.cond (.t 38)
    (RC.skip)
    (RC.exit 0)))
  (RC.seq (RC.block 1 (RC.seq (RC.seq (RC.reg [⟨(some 41), .mv (.t 0), none, [0]⟩,
        ⟨(some 42), .mv (.t 1), none, [1]⟩,
        ⟨(some 43), .mv (.t 8), none, [8]⟩,
        ⟨(some 44), .bin (.int .add) (.t 42) (.t 43), none, [42, 43]⟩,
        ⟨(some 45), .ixs (.t 41) (.t 44), none, [41, 44]⟩,
        ⟨(some 46), .call 28 [(.t 45), (.c (.int .u8 128)), (.c (.int .u8 191))], none, [45]⟩,
        ⟨(some 47), .un .not (.t 46), none, [46]⟩])
     (RC.cond (.t 47)
      (RC.seq (RC.reg [⟨(some 4), .mv (.c (.int .i64 0)), none, []⟩])
       (RC.ret))
      (RC.skip)))
    (RC.reg [⟨(some 48), .mv (.t 7), none, [7]⟩,
      ⟨(some 49), .bin (.int .mul) (.c (.int .i64 64)) (.t 48), none, [48]⟩,
      ⟨(some 50), .mv (.t 0), none, [0]⟩,
      ⟨(some 51), .mv (.t 1), none, [1]⟩,
      ⟨(some 52), .mv (.t 8), none, [8]⟩,
      ⟨(some 53), .bin (.int .add) (.t 51) (.t 52), none, [51, 52]⟩,
      ⟨(some 54), .ixs (.t 50) (.t 53), none, [50, 53]⟩,
      ⟨(some 55), .cv (.int .i64) (.t 54), none, [54]⟩,
      ⟨(some 56), .bin (.int .add) (.t 49) (.t 55), none, [49, 55]⟩,
      ⟨(some 57), .bin (.int .sub) (.t 56) (.c (.int .i64 128)), none, [56]⟩,
      ⟨(some 7), .mv (.t 57), none, [57]⟩])))
  (RC.reg [⟨(some 39), .mv (.t 8), none, [8]⟩,
    ⟨(some 40), .bin (.int .add) (.t 39) (.c (.int .i64 1)), none, [39]⟩,
    ⟨(some 8), .mv (.t 40), none, [40]⟩]))
def c35 : RC :=
  RC.seq (RC.reg [⟨(some 4), .mv (.c (.int .i64 0)), none, []⟩])
  (RC.seq (RC.reg [⟨(some 10), .mv (.t 0), none, [0]⟩,
     ⟨(some 11), .mv (.t 1), none, [1]⟩,
     ⟨(some 12), .ixs (.t 10) (.t 11), none, [10, 11]⟩,
     ⟨(some 13), .call 61 [(.t 12)], none, [12]⟩,
     ⟨(some 9), .mv (.t 13), none, [13]⟩,
     ⟨(some 14), .ext (.t 9) 0, none, [9]⟩,
     ⟨(some 15), .ext (.t 9) 1, none, [9]⟩,
     ⟨(some 5), .mv (.t 14), none, [14]⟩,
     ⟨(some 6), .mv (.t 15), none, [15]⟩])
  (RC.seq (RC.seq (RC.reg [⟨(some 16), .mv (.t 5), none, [5]⟩,
      ⟨(some 17), .bin (.int .eql) (.t 16) (.c (.int .i64 0)), none, [16]⟩,
      ⟨(some 18), .mv (.t 17), none, [17]⟩,
      ⟨(some 19), .mv (.t 1), (some (18, false)), [1, 18]⟩,
      ⟨(some 20), .mv (.t 5), (some (18, false)), [5, 18]⟩,
      ⟨(some 21), .bin (.int .add) (.t 19) (.t 20), (some (18, false)), [19, 20, 18]⟩,
      ⟨(some 22), .mv (.t 0), (some (18, false)), [0, 18]⟩,
      ⟨(some 23), .len .str (.t 22), (some (18, false)), [22, 18]⟩,
      ⟨(some 24), .bin (.int .gtr) (.t 21) (.t 23), (some (18, false)), [21, 23, 18]⟩,
      ⟨(some 25), .pick (.t 18) (.c (.bool true)) (.t 24), none, [18, 24]⟩])
   (RC.cond (.t 25)
    (RC.seq (RC.reg [⟨(some 4), .mv (.c (.int .i64 0)), none, []⟩])
     (RC.ret))
    (RC.skip)))
  (RC.seq (RC.seq (RC.reg [⟨(some 26), .mv (.t 5), none, [5]⟩,
      ⟨(some 27), .bin (.int .eql) (.t 26) (.c (.int .i64 1)), none, [26]⟩])
   (RC.cond (.t 27)
    (RC.seq (RC.reg [⟨(some 4), .mv (.c (.int .i64 1)), none, []⟩])
     (RC.ret))
    (RC.skip)))
  (RC.seq (RC.draw [⟨(some 28), .mv (.t 0), none, [0]⟩,
     ⟨(some 29), .mv (.t 1), none, [1]⟩,
     ⟨(some 30), .ixs (.t 28) (.t 29), none, [28, 29]⟩,
     ⟨(some 31), .cv (.int .i64) (.t 30), none, [30]⟩,
     ⟨(some 32), .mv (.t 5), none, [5]⟩,
     ⟨(some 33), .bin (.int .sub) (.c (.int .i64 7)) (.t 32), none, [32]⟩,
     ⟨(some 34), .bin .shl (.c (.int .i64 1)) (.t 33), none, [33]⟩,
     ⟨(some 35), .bin (.int .rem) (.t 31) (.t 34), none, [31, 34]⟩,
     ⟨(some 7), .mv (.t 35), none, [35]⟩] [])
  (RC.seq (RC.seq (RC.reg [⟨(some 8), .mv (.c (.int .i64 1)), none, []⟩])
   (RC.block 0 (RC.loop c35l1)))
  (RC.seq (RC.seq (RC.reg [⟨(some 58), .mv (.t 7), none, [7]⟩,
      ⟨(some 59), .mv (.t 6), none, [6]⟩,
      ⟨(some 60), .bin (.int .lss) (.t 58) (.t 59), none, [58, 59]⟩,
      ⟨(some 61), .mv (.t 60), none, [60]⟩,
      ⟨(some 62), .mv (.t 7), (some (61, false)), [7, 61]⟩,
      ⟨(some 63), .bin (.int .gtr) (.t 62) (.c (.int .i64 1114111)), (some (61, false)), [62, 61]⟩,
      ⟨(some 64), .pick (.t 61) (.c (.bool true)) (.t 63), none, [61, 63]⟩,
      ⟨(some 65), .mv (.t 64), none, [64]⟩,
      ⟨(some 66), .mv (.t 7), (some (65, false)), [7, 65]⟩,
      ⟨(some 67), .bin (.int .geq) (.t 66) (.c (.int .i64 55296)), (some (65, false)), [66, 65]⟩,
      ⟨(some 68), .mv (.t 67), (some (65, false)), [67, 65]⟩,
      ⟨(some 69), .mv (.t 7), (some (68, true)), [7, 68]⟩,
      ⟨(some 70), .bin (.int .leq) (.t 69) (.c (.int .i64 57343)), (some (68, true)), [69, 68]⟩,
      ⟨(some 71), .pick (.t 68) (.t 70) (.c (.bool false)), (some (65, false)), [68, 70, 65]⟩,
      ⟨(some 72), .pick (.t 65) (.c (.bool true)) (.t 71), none, [65, 71]⟩])
   (RC.cond (.t 72)
    (RC.seq (RC.reg [⟨(some 4), .mv (.c (.int .i64 0)), none, []⟩])
     (RC.ret))
    (RC.skip)))
  (RC.seq (RC.reg [⟨(some 73), .mv (.t 5), none, [5]⟩,
     ⟨(some 4), .mv (.t 73), none, [73]⟩])
  (RC.ret))))))))
theorem c35_ok : resK Tryd.prog Tryd.f35.ntmps (Tryd.f35.body.getD .skip) = c35 := by kernel_rfl
theorem c35_res : resR Tryd.prog Tryd.f35.ntmps Tryd.f35.results.toList = [.t 4] := by kernel_rfl
theorem c35_ctr {args : List V} {h : Heap} {K : V → Heap → Prop} (hl : Nat.ble args.length 74 = true) (H : wpC Tryd.prog c35 (RF.ofL args) h fun e r h' => e.ends ∧ ∃ vs, evR r h' [.t 4] = some vs ∧ K (oneOf vs) h') : Ctr Tryd.prog 35 args h K :=
  ctr_of_wp follows namesOk Tryd.func35 (c := Tryd.f35.body.getD .skip) (by kernel_rfl) (by kernel_rfl) hl c35_ok c35_res H

/-- gimlet/gimletref15.may -/
def c40 : RC :=
  RC.seq (RC.reg [⟨(some 1), .box (.t 0), none, [0]⟩,
     ⟨(some 2), .mv (.c (.bool false)), none, []⟩])
  (RC.seq (RC.seq (RC.reg [⟨(some 3), .fa 0 (.t 1), none, [1]⟩,
      ⟨(some 4), .ld1 (.t 3), none, [3]⟩])
   (RC.block 0 (RC.seq (RC.reg [⟨(some 6), .bin (.int .eql) (.t 4) (.c (.int .i64 1)), none, [4]⟩,
       ⟨(some 5), .mv (.t 6), none, [6]⟩])
    (RC.cond (.t 5)
     (RC.seq (RC.reg [⟨(some 7), .fa 1 (.t 1), none, [1]⟩,
         ⟨(some 8), .ld1 (.t 7), none, [7]⟩,
         ⟨(some 9), .bin (.int .geq) (.t 8) (.c (.int .i64 (-1073741824))), none, [8]⟩,
         ⟨(some 10), .mv (.t 9), none, [9]⟩,
         ⟨(some 11), .fa 1 (.t 1), (some (10, true)), [1, 10]⟩,
         ⟨(some 12), .ld1 (.t 11), (some (10, true)), [11, 10]⟩,
         ⟨(some 13), .bin (.int .leq) (.t 12) (.c (.int .i64 1073741823)), (some (10, true)), [12, 10]⟩,
         ⟨(some 14), .pick (.t 10) (.t 13) (.c (.bool false)), none, [10, 13]⟩,
         ⟨(some 15), .mv (.t 14), none, [14]⟩,
         ⟨(some 16), .fa 3 (.t 1), (some (15, true)), [1, 15]⟩,
         ⟨(some 17), .ld1 (.t 16), (some (15, true)), [16, 15]⟩,
         ⟨(some 18), .bin (.str .eql) (.t 17) (.c (.str [])), (some (15, true)), [17, 15]⟩,
         ⟨(some 19), .pick (.t 15) (.t 18) (.c (.bool false)), none, [15, 18]⟩,
         ⟨(some 2), .mv (.t 19), none, [19]⟩])
      (RC.ret))
     (RC.seq (RC.reg [⟨(some 21), .bin (.int .eql) (.t 4) (.c (.int .i64 2)), none, [4]⟩,
         ⟨(some 20), .mv (.t 21), none, [21]⟩])
      (RC.cond (.t 20)
       (RC.seq (RC.reg [⟨(some 22), .fa 1 (.t 1), none, [1]⟩,
           ⟨(some 23), .ld1 (.t 22), none, [22]⟩,
           ⟨(some 24), .bin (.int .eql) (.t 23) (.c (.int .i64 0)), none, [23]⟩,
           ⟨(some 25), .mv (.t 24), none, [24]⟩,
           ⟨(some 26), .fa 3 (.t 1), (some (25, true)), [1, 25]⟩,
           ⟨(some 27), .ld1 (.t 26), (some (25, true)), [26, 25]⟩,
           ⟨(some 28), .len .str (.t 27), (some (25, true)), [27, 25]⟩,
           ⟨(some 29), .bin (.int .leq) (.t 28) (.c (.int .i64 4096)), (some (25, true)), [28, 25]⟩,
           ⟨(some 30), .pick (.t 25) (.t 29) (.c (.bool false)), none, [25, 29]⟩,
           ⟨(some 2), .mv (.t 30), none, [30]⟩])
        (RC.ret))
       (RC.seq (RC.seq (RC.reg [⟨(some 32), .bin (.int .eql) (.t 4) (.c (.int .i64 3)), none, [4]⟩,
            ⟨(some 31), .mv (.t 32), none, [32]⟩])
         (RC.cond (.t 31)
          (RC.skip)
          (RC.seq (RC.reg [⟨(some 33), .bin (.int .eql) (.t 4) (.c (.int .i64 4)), none, [4]⟩,
              ⟨(some 31), .mv (.t 33), none, [33]⟩])
           (RC.cond (.t 31)
            (RC.skip)
            (RC.reg [⟨(some 34), .bin (.int .eql) (.t 4) (.c (.int .i64 5)), none, [4]⟩,
               ⟨(some 31), .mv (.t 34), none, [34]⟩])))))
        (RC.cond (.t 31)
         (RC.seq (RC.reg [⟨(some 35), .fa 1 (.t 1), none, [1]⟩,
             ⟨(some 36), .ld1 (.t 35), none, [35]⟩,
             ⟨(some 37), .bin (.int .eql) (.t 36) (.c (.int .i64 0)), none, [36]⟩,
             ⟨(some 38), .mv (.t 37), none, [37]⟩,
             ⟨(some 39), .fa 0 (.t 1), (some (38, true)), [1, 38]⟩,
             ⟨(some 40), .ld1 (.t 39), (some (38, true)), [39, 38]⟩,
             ⟨(some 41), .fa 3 (.t 1), (some (38, true)), [1, 38]⟩,
             ⟨(some 42), .ld1 (.t 41), (some (38, true)), [41, 38]⟩,
             ⟨(some 43), .call 69 [(.t 40), (.t 42)], (some (38, true)), [40, 42, 38]⟩,
             ⟨(some 44), .pick (.t 38) (.t 43) (.c (.bool false)), none, [38, 43]⟩,
             ⟨(some 2), .mv (.t 44), none, [44]⟩])
          (RC.ret))
         (RC.seq (RC.reg [⟨(some 46), .bin (.int .eql) (.t 4) (.c (.int .i64 6)), none, [4]⟩,
             ⟨(some 45), .mv (.t 46), none, [46]⟩])
          (RC.cond (.t 45)
           (RC.seq (RC.draw [⟨(some 47), .fa 1 (.t 1), none, [1]⟩,
               ⟨(some 48), .ld1 (.t 47), none, [47]⟩,
               ⟨(some 49), .bin (.int .eql) (.t 48) (.c (.int .i64 0)), none, [48]⟩,
               ⟨(some 50), .mv (.t 49), none, [49]⟩,
               ⟨(some 51), .fa 3 (.t 1), (some (50, true)), [1, 50]⟩,
               ⟨(some 52), .ld1 (.t 51), (some (50, true)), [51, 50]⟩,
               ⟨(some 53), .call 55 [], (some (50, true)), [50]⟩,
               ⟨(some 54), .call 54 [(.t 52), (.t 53)], (some (50, true)), [52, 53, 50]⟩,
               ⟨(some 55), .pick (.t 50) (.t 54) (.c (.bool false)), none, [50, 54]⟩,
               ⟨(some 2), .mv (.t 55), none, [55]⟩] [(1, [6]), (5, [6, 7])])
            (RC.ret))
           (RC.seq (RC.reg [⟨(some 57), .bin (.int .eql) (.t 4) (.c (.int .i64 7)), none, [4]⟩,
               ⟨(some 56), .mv (.t 57), none, [57]⟩])
            (RC.cond (.t 56)
             (RC.seq (RC.draw [⟨(some 58), .fa 1 (.t 1), none, [1]⟩,
                 ⟨(some 59), .ld1 (.t 58), none, [58]⟩,
                 ⟨(some 60), .bin (.int .eql) (.t 59) (.c (.int .i64 0)), none, [59]⟩,
                 ⟨(some 61), .mv (.t 60), none, [60]⟩,
                 ⟨(some 62), .fa 3 (.t 1), (some (61, true)), [1, 61]⟩,
                 ⟨(some 63), .ld1 (.t 62), (some (61, true)), [62, 61]⟩,
                 ⟨(some 64), .call 59 [], (some (61, true)), [61]⟩,
                 ⟨(some 65), .call 54 [(.t 63), (.t 64)], (some (61, true)), [63, 64, 61]⟩,
                 ⟨(some 66), .pick (.t 61) (.t 65) (.c (.bool false)), none, [61, 65]⟩,
                 ⟨(some 2), .mv (.t 66), none, [66]⟩] [(1, [6]), (5, [6, 7])])
              (RC.ret))
             (RC.skip)))))))))))))
  (RC.seq (RC.reg [⟨(some 2), .mv (.c (.bool false)), none, []⟩])
  (RC.ret)))
theorem c40_ok : resK Tryd.prog Tryd.f40.ntmps (Tryd.f40.body.getD .skip) = c40 := by kernel_rfl
theorem c40_res : resR Tryd.prog Tryd.f40.ntmps Tryd.f40.results.toList = [.t 2] := by kernel_rfl
theorem c40_ctr {args : List V} {h : Heap} {K : V → Heap → Prop} (hl : Nat.ble args.length 67 = true) (H : wpC Tryd.prog c40 (RF.ofL args) h fun e r h' => e.ends ∧ ∃ vs, evR r h' [.t 2] = some vs ∧ K (oneOf vs) h') : Ctr Tryd.prog 40 args h K :=
  ctr_of_wp follows namesOk Tryd.func40 (c := Tryd.f40.body.getD .skip) (by kernel_rfl) (by kernel_rfl) hl c40_ok c40_res H

/-- gimlet/gimletref15.written -/
def c41 : RC :=
  RC.seq (RC.reg [⟨(some 1), .box (.t 0), none, [0]⟩,
     ⟨(some 2), .mv (.c (.str [])), none, []⟩])
  (RC.seq (RC.seq (RC.reg [⟨(some 3), .fa 0 (.t 1), none, [1]⟩,
      ⟨(some 4), .ld1 (.t 3), none, [3]⟩])
   (RC.block 0 (RC.seq (RC.reg [⟨(some 6), .bin (.int .eql) (.t 4) (.c (.int .i64 1)), none, [4]⟩,
       ⟨(some 5), .mv (.t 6), none, [6]⟩])
    (RC.cond (.t 5)
     (RC.seq (RC.seq (RC.reg [⟨(some 7), .fa 1 (.t 1), none, [1]⟩,
          ⟨(some 8), .ld1 (.t 7), none, [7]⟩,
          ⟨(some 9), .bin (.int .lss) (.t 8) (.c (.int .i64 0)), none, [8]⟩])
       (RC.cond (.t 9)
        (RC.seq (RC.reg [⟨(some 10), .fa 1 (.t 1), none, [1]⟩,
            ⟨(some 11), .ld1 (.t 10), none, [10]⟩,
            ⟨(some 12), .bin (.int .add) (.t 11) (.c (.int .i64 2147483648)), none, [11]⟩,
            ⟨(some 13), .call 70 [(.t 12)], none, [12]⟩,
            ⟨(some 2), .mv (.t 13), none, [13]⟩])
         (RC.ret))
        (RC.skip)))
      (RC.seq (RC.reg [⟨(some 14), .fa 1 (.t 1), none, [1]⟩,
         ⟨(some 15), .ld1 (.t 14), none, [14]⟩,
         ⟨(some 16), .call 70 [(.t 15)], none, [15]⟩,
         ⟨(some 2), .mv (.t 16), none, [16]⟩])
      (RC.ret)))
     (RC.seq (RC.reg [⟨(some 18), .bin (.int .eql) (.t 4) (.c (.int .i64 2)), none, [4]⟩,
         ⟨(some 17), .mv (.t 18), none, [18]⟩])
      (RC.cond (.t 17)
       (RC.seq (RC.reg [⟨(some 19), .fa 3 (.t 1), none, [1]⟩,
           ⟨(some 20), .ld1 (.t 19), none, [19]⟩,
           ⟨(some 21), .call 71 [(.t 20)], none, [20]⟩,
           ⟨(some 2), .mv (.t 21), none, [21]⟩])
        (RC.ret))
       (RC.seq (RC.reg [⟨(some 23), .bin (.int .eql) (.t 4) (.c (.int .i64 5)), none, [4]⟩,
           ⟨(some 22), .mv (.t 23), none, [23]⟩])
        (RC.cond (.t 22)
         (RC.seq (RC.reg [⟨(some 24), .fa 3 (.t 1), none, [1]⟩,
             ⟨(some 25), .ld1 (.t 24), none, [24]⟩,
             ⟨(some 26), .bin (.str .add) (.c (.str [39])) (.t 25), none, [25]⟩,
             ⟨(some 2), .mv (.t 26), none, [26]⟩])
          (RC.ret))
         (RC.skip)))))))))
  (RC.seq (RC.reg [⟨(some 27), .fa 3 (.t 1), none, [1]⟩,
     ⟨(some 28), .ld1 (.t 27), none, [27]⟩,
     ⟨(some 2), .mv (.t 28), none, [28]⟩])
  (RC.ret)))
theorem c41_ok : resK Tryd.prog Tryd.f41.ntmps (Tryd.f41.body.getD .skip) = c41 := by kernel_rfl
theorem c41_res : resR Tryd.prog Tryd.f41.ntmps Tryd.f41.results.toList = [.t 2] := by kernel_rfl
theorem c41_ctr {args : List V} {h : Heap} {K : V → Heap → Prop} (hl : Nat.ble args.length 29 = true) (H : wpC Tryd.prog c41 (RF.ofL args) h fun e r h' => e.ends ∧ ∃ vs, evR r h' [.t 2] = some vs ∧ K (oneOf vs) h') : Ctr Tryd.prog 41 args h K :=
  ctr_of_wp follows namesOk Tryd.func41 (c := Tryd.f41.body.getD .skip) (by kernel_rfl) (by kernel_rfl) hl c41_ok c41_res H

/-- (*gimlet/gimletref15.reader).starts -/
def c51 : RC :=
  RC.seq (RC.reg [⟨(some 4), .mv (.c (.bool false)), none, []⟩])
  (RC.seq (RC.draw [⟨(some 5), .mv (.t 0), none, [0]⟩,
     ⟨(some 6), .nilck (.t 5), none, [5]⟩,
     ⟨(some 7), .fa 0 (.t 6), none, [6]⟩,
     ⟨(some 8), .ld1 (.t 7), none, [7]⟩,
     ⟨(some 9), .len .str (.t 8), none, [8]⟩,
     ⟨(some 10), .mv (.t 0), none, [0]⟩,
     ⟨(some 11), .nilck (.t 10), none, [10]⟩,
     ⟨(some 12), .fa 1 (.t 11), none, [11]⟩,
     ⟨(some 13), .ld1 (.t 12), none, [12]⟩,
     ⟨(some 14), .bin (.int .sub) (.t 9) (.t 13), none, [9, 13]⟩,
     ⟨(some 15), .mv (.t 1), none, [1]⟩,
     ⟨(some 16), .len .str (.t 15), none, [15]⟩,
     ⟨(some 17), .bin (.int .geq) (.t 14) (.t 16), none, [14, 16]⟩,
     ⟨(some 18), .mv (.t 17), none, [17]⟩,
     ⟨(some 19), .mv (.t 0), (some (18, true)), [0, 18]⟩,
     ⟨(some 20), .nilck (.t 19), (some (18, true)), [19, 18]⟩,
     ⟨(some 21), .fa 0 (.t 20), (some (18, true)), [20, 18]⟩,
     ⟨(some 22), .ld1 (.t 21), (some (18, true)), [21, 18]⟩,
     ⟨(some 23), .mv (.t 0), (some (18, true)), [0, 18]⟩,
     ⟨(some 24), .nilck (.t 23), (some (18, true)), [23, 18]⟩,
     ⟨(some 25), .fa 1 (.t 24), (some (18, true)), [24, 18]⟩,
     ⟨(some 26), .ld1 (.t 25), (some (18, true)), [25, 18]⟩,
     ⟨(some 27), .mv (.t 0), (some (18, true)), [0, 18]⟩,
     ⟨(some 28), .nilck (.t 27), (some (18, true)), [27, 18]⟩,
     ⟨(some 29), .fa 1 (.t 28), (some (18, true)), [28, 18]⟩,
     ⟨(some 30), .ld1 (.t 29), (some (18, true)), [29, 18]⟩,
     ⟨(some 31), .mv (.t 1), (some (18, true)), [1, 18]⟩,
     ⟨(some 32), .len .str (.t 31), (some (18, true)), [31, 18]⟩,
     ⟨(some 33), .bin (.int .add) (.t 30) (.t 32), (some (18, true)), [30, 32, 18]⟩,
     ⟨(some 34), .slstr (.t 22) (some (.t 26)) (some (.t 33)) none, (some (18, true)), [22, 26, 33, 18]⟩,
     ⟨(some 35), .mv (.t 1), (some (18, true)), [1, 18]⟩,
     ⟨(some 36), .bin (.str .eql) (.t 34) (.t 35), (some (18, true)), [34, 35, 18]⟩,
     ⟨(some 37), .pick (.t 18) (.t 36) (.c (.bool false)), none, [18, 36]⟩,
     ⟨(some 4), .mv (.t 37), none, [37]⟩] [])
  (RC.ret))
theorem c51_ok : resK Tryd.prog Tryd.f51.ntmps (Tryd.f51.body.getD .skip) = c51 := by kernel_rfl
theorem c51_res : resR Tryd.prog Tryd.f51.ntmps Tryd.f51.results.toList = [.t 4] := by kernel_rfl
theorem c51_ctr {args : List V} {h : Heap} {K : V → Heap → Prop} (hl : Nat.ble args.length 38 = true) (H : wpC Tryd.prog c51 (RF.ofL args) h fun e r h' => e.ends ∧ ∃ vs, evR r h' [.t 4] = some vs ∧ K (oneOf vs) h') : Ctr Tryd.prog 51 args h K :=
  ctr_of_wp follows namesOk Tryd.func51 (c := Tryd.f51.body.getD .skip) (by kernel_rfl) (by kernel_rfl) hl c51_ok c51_res H

/-- (*gimlet/gimletref15.reader).note -/
def c52l1 : RC :=
  RC.seq (RC.seq (RC.draw [⟨(some 3), .mv (.t 0), none, [0]⟩,
      ⟨(some 4), .nilck (.t 3), none, [3]⟩,
      ⟨(some 5), .fa 1 (.t 4), none, [4]⟩,
      ⟨(some 6), .ld1 (.t 5), none, [5]⟩,
      ⟨(some 7), .mv (.t 0), none, [0]⟩,
      ⟨(some 8), .nilck (.t 7), none, [7]⟩,
      ⟨(some 9), .fa 0 (.t 8), none, [8]⟩,
      ⟨(some 10), .ld1 (.t 9), none, [9]⟩,
      ⟨(some 11), .len .str (.t 10), none, [10]⟩,
      ⟨(some 12), .bin (.int .lss) (.t 6) (.t 11), none, [6, 11]⟩] [])
   (RC.cond (.t 12)
    (RC.skip)
    (RC.exit 0)))
  (RC.block 1 (RC.seq (RC.reg [⟨(some 13), .mv (.t 0), none, [0]⟩,
      ⟨(some 14), .call 51 [(.t 13), (.c (.str [40, 42]))], none, [13]⟩])
   (RC.cond (.t 14)
    (RC.seq (RC.reg [⟨(some 15), .mv (.t 2), none, [2]⟩,
        ⟨(some 16), .bin (.int .add) (.t 15) (.c (.int .i64 1)), none, [15]⟩,
        ⟨(some 2), .mv (.t 16), none, [16]⟩])
     (RC.reg [⟨(some 17), .mv (.t 0), none, [0]⟩,
       ⟨(some 18), .mv (.t 0), none, [0]⟩,
       ⟨(some 19), .nilck (.t 18), none, [18]⟩,
       ⟨(some 20), .fa 1 (.t 19), none, [19]⟩,
       ⟨(some 21), .ld1 (.t 20), none, [20]⟩,
       ⟨(some 22), .bin (.int .add) (.t 21) (.c (.int .i64 2)), none, [21]⟩,
       ⟨(some 23), .nilck (.t 17), none, [17]⟩,
       ⟨(some 24), .fa 1 (.t 23), none, [23]⟩,
       ⟨none, .st 1 (.t 24) (.t 22), none, [24, 22]⟩]))
    (RC.seq (RC.reg [⟨(some 25), .mv (.t 0), none, [0]⟩,
        ⟨(some 26), .call 51 [(.t 25), (.c (.str [42, 41]))], none, [25]⟩])
     (RC.cond (.t 26)
      (RC.seq (RC.reg [⟨(some 27), .mv (.t 2), none, [2]⟩,
          ⟨(some 28), .bin (.int .sub) (.t 27) (.c (.int .i64 1)), none, [27]⟩,
          ⟨(some 2), .mv (.t 28), none, [28]⟩])
       (RC.seq (RC.reg [⟨(some 29), .mv (.t 0), none, [0]⟩,
          ⟨(some 30), .mv (.t 0), none, [0]⟩,
          ⟨(some 31), .nilck (.t 30), none, [30]⟩,
          ⟨(some 32), .fa 1 (.t 31), none, [31]⟩,
          ⟨(some 33), .ld1 (.t 32), none, [32]⟩,
          ⟨(some 34), .bin (.int .add) (.t 33) (.c (.int .i64 2)), none, [33]⟩,
          ⟨(some 35), .nilck (.t 29), none, [29]⟩,
          ⟨(some 36), .fa 1 (.t 35), none, [35]⟩,
          ⟨none, .st 1 (.t 36) (.t 34), none, [36, 34]⟩])
       (RC.seq (RC.reg [⟨(some 37), .mv (.t 2), none, [2]⟩,
          ⟨(some 38), .bin (.int .eql) (.t 37) (.c (.int .i64 0)), none, [37]⟩])
       (RC.cond (.t 38)
        (RC.ret)
        (RC.skip)))))
      (RC.reg [⟨(some 39), .mv (.t 0), none, [0]⟩,
         ⟨(some 40), .nilck (.t 39), none, [39]⟩,
         ⟨(some 41), .fa 1 (.t 40), none, [40]⟩,
         ⟨(some 42), .ld1 (.t 41), none, [41]⟩,
         ⟨(some 43), .bin (.int .add) (.t 42) (.c (.int .i64 1)), none, [42]⟩,
         ⟨(some 44), .nilck (.t 39), none, [39]⟩,
         ⟨(some 45), .fa 1 (.t 44), none, [44]⟩,
         ⟨none, .st 1 (.t 45) (.t 43), none, [45, 43]⟩]))))))
def c52 : RC :=
  RC.seq (RC.reg [⟨(some 2), .mv (.c (.int .i64 0)), none, []⟩])
  (RC.seq (RC.block 0 (RC.loop c52l1))
  (RC.reg [⟨(some 46), .mv (.t 0), none, [0]⟩,
    ⟨(some 47), .nilck (.t 46), none, [46]⟩,
    ⟨(some 48), .fa 3 (.t 47), none, [47]⟩,
    ⟨none, .st 1 (.t 48) (.c (.int .i64 253)), none, [48]⟩]))
theorem c52_ok : resK Tryd.prog Tryd.f52.ntmps (Tryd.f52.body.getD .skip) = c52 := by kernel_rfl
theorem c52_res : resR Tryd.prog Tryd.f52.ntmps Tryd.f52.results.toList = [] := by kernel_rfl
theorem c52_ctr {args : List V} {h : Heap} {K : V → Heap → Prop} (hl : Nat.ble args.length 49 = true) (H : wpC Tryd.prog c52 (RF.ofL args) h fun e r h' => e.ends ∧ ∃ vs, evR r h' [] = some vs ∧ K (oneOf vs) h') : Ctr Tryd.prog 52 args h K :=
  ctr_of_wp follows namesOk Tryd.func52 (c := Tryd.f52.body.getD .skip) (by kernel_rfl) (by kernel_rfl) hl c52_ok c52_res H

/-- gimlet/gimletref15.Letter -/
def c53 : RC :=
  RC.seq (RC.reg [⟨(some 2), .mv (.c (.bool false)), none, []⟩])
  (RC.seq (RC.reg [⟨(some 3), .mv (.t 0), none, [0]⟩,
     ⟨(some 4), .call 28 [(.t 3), (.c (.int .u8 97)), (.c (.int .u8 122))], none, [3]⟩,
     ⟨(some 5), .mv (.t 4), none, [4]⟩,
     ⟨(some 6), .mv (.t 0), (some (5, false)), [0, 5]⟩,
     ⟨(some 7), .call 28 [(.t 6), (.c (.int .u8 65)), (.c (.int .u8 90))], (some (5, false)), [6, 5]⟩,
     ⟨(some 8), .pick (.t 5) (.c (.bool true)) (.t 7), none, [5, 7]⟩,
     ⟨(some 9), .mv (.t 8), none, [8]⟩,
     ⟨(some 10), .mv (.t 0), (some (9, false)), [0, 9]⟩,
     ⟨(some 11), .call 28 [(.t 10), (.c (.int .u8 48)), (.c (.int .u8 57))], (some (9, false)), [10, 9]⟩,
     ⟨(some 12), .pick (.t 9) (.c (.bool true)) (.t 11), none, [9, 11]⟩,
     ⟨(some 13), .mv (.t 12), none, [12]⟩,
     ⟨(some 14), .mv (.t 0), (some (13, false)), [0, 13]⟩,
     ⟨(some 15), .bin (.int .eql) (.t 14) (.c (.int .u8 95)), (some (13, false)), [14, 13]⟩,
     ⟨(some 16), .pick (.t 13) (.c (.bool true)) (.t 15), none, [13, 15]⟩,
     ⟨(some 17), .mv (.t 16), none, [16]⟩,
     ⟨(some 18), .mv (.t 0), (some (17, false)), [0, 17]⟩,
     ⟨(some 19), .bin (.int .eql) (.t 18) (.c (.int .u8 39)), (some (17, false)), [18, 17]⟩,
     ⟨(some 20), .pick (.t 17) (.c (.bool true)) (.t 19), none, [17, 19]⟩,
     ⟨(some 2), .mv (.t 20), none, [20]⟩])
  (RC.ret))
theorem c53_ok : resK Tryd.prog Tryd.f53.ntmps (Tryd.f53.body.getD .skip) = c53 := by kernel_rfl
theorem c53_res : resR Tryd.prog Tryd.f53.ntmps Tryd.f53.results.toList = [.t 2] := by kernel_rfl
theorem c53_ctr {args : List V} {h : Heap} {K : V → Heap → Prop} (hl : Nat.ble args.length 21 = true) (H : wpC Tryd.prog c53 (RF.ofL args) h fun e r h' => e.ends ∧ ∃ vs, evR r h' [.t 2] = some vs ∧ K (oneOf vs) h') : Ctr Tryd.prog 53 args h K :=
  ctr_of_wp follows namesOk Tryd.func53 (c := Tryd.f53.body.getD .skip) (by kernel_rfl) (by kernel_rfl) hl c53_ok c53_res H

/-- gimlet/gimletref15.In -/
def c54l1 : RC :=
  RC.seq (RC.seq (RC.reg [⟨(some 6), .mv (.t 5), none, [5]⟩,
      ⟨(some 7), .mv (.t 1), none, [1]⟩,
      ⟨(some 8), .len .slice (.t 7), none, [7]⟩,
      ⟨(some 9), .bin (.int .lss) (.t 6) (.t 8), none, [6, 8]⟩])
   (RC.cond (.t 9)
    (RC.skip)
    (RC.exit 0)))
  (RC.seq (RC.block 1 (RC.seq (RC.reg [⟨(some 12), .mv (.t 1), none, [1]⟩,
       ⟨(some 13), .mv (.t 5), none, [5]⟩,
       ⟨(some 14), .ia 1 (.t 12) (.t 13), none, [12, 13]⟩,
       ⟨(some 15), .ld1 (.t 14), none, [14]⟩,
       ⟨(some 16), .mv (.t 0), none, [0]⟩,
       ⟨(some 17), .bin (.str .eql) (.t 15) (.t 16), none, [15, 16]⟩])
    (RC.cond (.t 17)
     (RC.seq (RC.reg [⟨(some 4), .mv (.c (.bool true)), none, []⟩])
      (RC.ret))
     (RC.skip))))
  (RC.reg [⟨(some 10), .mv (.t 5), none, [5]⟩,
    ⟨(some 11), .bin (.int .add) (.t 10) (.c (.int .i64 1)), none, [10]⟩,
    ⟨(some 5), .mv (.t 11), none, [11]⟩]))
def c54 : RC :=
  RC.seq (RC.reg [⟨(some 4), .mv (.c (.bool false)), none, []⟩])
  (RC.seq (RC.seq (RC.reg [⟨(some 5), .mv (.c (.int .i64 0)), none, []⟩])
   (RC.block 0 (RC.loop c54l1)))
  (RC.seq (RC.reg [⟨(some 4), .mv (.c (.bool false)), none, []⟩])
  (RC.ret)))
theorem c54_ok : resK Tryd.prog Tryd.f54.ntmps (Tryd.f54.body.getD .skip) = c54 := by kernel_rfl
theorem c54_res : resR Tryd.prog Tryd.f54.ntmps Tryd.f54.results.toList = [.t 4] := by kernel_rfl
theorem c54_ctr {args : List V} {h : Heap} {K : V → Heap → Prop} (hl : Nat.ble args.length 18 = true) (H : wpC Tryd.prog c54 (RF.ofL args) h fun e r h' => e.ends ∧ ∃ vs, evR r h' [.t 4] = some vs ∧ K (oneOf vs) h') : Ctr Tryd.prog 54 args h K :=
  ctr_of_wp follows namesOk Tryd.func54 (c := Tryd.f54.body.getD .skip) (by kernel_rfl) (by kernel_rfl) hl c54_ok c54_res H

/-- gimlet/gimletref15.Keys -/
def c55 : RC :=
  RC.seq (RC.reg [⟨(some 0), .mv (.c .nilslice), none, []⟩])
  (RC.seq (RC.reg [⟨(some 1), .bsl 20 1 [(.str [])] [(0, 1, (.c (.str [97, 110, 100]))), (1, 1, (.c (.str [98, 101, 103, 105, 110]))), (2, 1, (.c (.str [101, 108, 115, 101]))), (3, 1, (.c (.str [101, 110, 100]))), (4, 1, (.c (.str [101, 120, 99, 101, 112, 116, 105, 111, 110]))), (5, 1, (.c (.str [102, 97, 108, 115, 101]))), (6, 1, (.c (.str [102, 117, 110]))), (7, 1, (.c (.str [105, 102]))), (8, 1, (.c (.str [105, 110]))), (9, 1, (.c (.str [108, 101, 116]))), (10, 1, (.c (.str [109, 97, 116, 99, 104]))), (11, 1, (.c (.str [109, 111, 100]))), (12, 1, (.c (.str [111, 102]))), (13, 1, (.c (.str [114, 97, 105, 115, 101]))), (14, 1, (.c (.str [114, 101, 99]))), (15, 1, (.c (.str [116, 104, 101, 110]))), (16, 1, (.c (.str [116, 114, 117, 101]))), (17, 1, (.c (.str [116, 114, 121]))), (18, 1, (.c (.str [116, 121, 112, 101]))), (19, 1, (.c (.str [119, 105, 116, 104])))], none, []⟩,
     ⟨(some 0), .mv (.t 1), none, [1]⟩])
  (RC.ret))
theorem c55_ok : resK Tryd.prog Tryd.f55.ntmps (Tryd.f55.body.getD .skip) = c55 := by kernel_rfl
theorem c55_res : resR Tryd.prog Tryd.f55.ntmps Tryd.f55.results.toList = [.t 0] := by kernel_rfl
theorem c55_ctr {args : List V} {h : Heap} {K : V → Heap → Prop} (hl : Nat.ble args.length 2 = true) (H : wpC Tryd.prog c55 (RF.ofL args) h fun e r h' => e.ends ∧ ∃ vs, evR r h' [.t 0] = some vs ∧ K (oneOf vs) h') : Ctr Tryd.prog 55 args h K :=
  ctr_of_wp follows namesOk Tryd.func55 (c := Tryd.f55.body.getD .skip) (by kernel_rfl) (by kernel_rfl) hl c55_ok c55_res H

/-- (*gimlet/gimletref15.reader).add -/
def c56 : RC :=
  RC.draw [⟨(some 8), .mv (.t 0), none, [0]⟩,
    ⟨(some 9), .mv (.t 0), none, [0]⟩,
    ⟨(some 10), .nilck (.t 9), none, [9]⟩,
    ⟨(some 11), .fa 4 (.t 10), none, [10]⟩,
    ⟨(some 12), .ld1 (.t 11), none, [11]⟩,
    ⟨(some 13), .mv (.t 1), none, [1]⟩,
    ⟨(some 14), .mv (.t 2), none, [2]⟩,
    ⟨(some 15), .mv (.t 0), none, [0]⟩,
    ⟨(some 16), .nilck (.t 15), none, [15]⟩,
    ⟨(some 17), .fa 2 (.t 16), none, [16]⟩,
    ⟨(some 18), .ld1 (.t 17), none, [17]⟩,
    ⟨(some 19), .mv (.t 3), none, [3]⟩,
    ⟨(some 20), .build [(.int .i64 0), (.int .i64 0), (.int .i64 0), (.str [])] [(0, 1, (.t 13)), (1, 1, (.t 14)), (2, 1, (.t 18)), (3, 1, (.t 19))], none, [13, 14, 18, 19]⟩,
    ⟨(some 21), .bsl 1 4 [(.int .i64 0), (.int .i64 0), (.int .i64 0), (.str [])] [(0, 4, (.t 20))], none, [20]⟩,
    ⟨(some 22), .app 4 (.t 12) (.t 21), none, [12, 21]⟩,
    ⟨(some 23), .nilck (.t 8), none, [8]⟩,
    ⟨(some 24), .fa 4 (.t 23), none, [23]⟩,
    ⟨none, .st 1 (.t 24) (.t 22), none, [24, 22]⟩] [(4, [14]), (10, [14])]
theorem c56_ok : resK Tryd.prog Tryd.f56.ntmps (Tryd.f56.body.getD .skip) = c56 := by kernel_rfl
theorem c56_res : resR Tryd.prog Tryd.f56.ntmps Tryd.f56.results.toList = [] := by kernel_rfl
theorem c56_ctr {args : List V} {h : Heap} {K : V → Heap → Prop} (hl : Nat.ble args.length 25 = true) (H : wpC Tryd.prog c56 (RF.ofL args) h fun e r h' => e.ends ∧ ∃ vs, evR r h' [] = some vs ∧ K (oneOf vs) h') : Ctr Tryd.prog 56 args h K :=
  ctr_of_wp follows namesOk Tryd.func56 (c := Tryd.f56.body.getD .skip) (by kernel_rfl) (by kernel_rfl) hl c56_ok c56_res H

/-- gimlet/gimletref15.Number -/
def c57 : RC :=
  RC.seq (RC.reg [⟨(some 2), .mv (.c (.int .i64 0)), none, []⟩])
  (RC.seq (RC.seq (RC.reg [⟨(some 3), .mv (.t 0), none, [0]⟩,
      ⟨(some 4), .bin (.int .gtr) (.t 3) (.c (.int .i64 1073741823)), none, [3]⟩])
   (RC.cond (.t 4)
    (RC.seq (RC.reg [⟨(some 5), .mv (.t 0), none, [0]⟩,
        ⟨(some 6), .bin (.int .sub) (.t 5) (.c (.int .i64 2147483648)), none, [5]⟩,
        ⟨(some 2), .mv (.t 6), none, [6]⟩])
     (RC.ret))
    (RC.skip)))
  (RC.seq (RC.reg [⟨(some 7), .mv (.t 0), none, [0]⟩,
     ⟨(some 2), .mv (.t 7), none, [7]⟩])
  (RC.ret)))
theorem c57_ok : resK Tryd.prog Tryd.f57.ntmps (Tryd.f57.body.getD .skip) = c57 := by kernel_rfl
theorem c57_res : resR Tryd.prog Tryd.f57.ntmps Tryd.f57.results.toList = [.t 2] := by kernel_rfl
theorem c57_ctr {args : List V} {h : Heap} {K : V → Heap → Prop} (hl : Nat.ble args.length 8 = true) (H : wpC Tryd.prog c57 (RF.ofL args) h fun e r h' => e.ends ∧ ∃ vs, evR r h' [.t 2] = some vs ∧ K (oneOf vs) h') : Ctr Tryd.prog 57 args h K :=
  ctr_of_wp follows namesOk Tryd.func57 (c := Tryd.f57.body.getD .skip) (by kernel_rfl) (by kernel_rfl) hl c57_ok c57_res H

/-- (*gimlet/gimletref15.reader).escape -/
def c58l1 : RC :=
  RC.seq (RC.seq (RC.reg [⟨(some 44), .mv (.t 5), none, [5]⟩,
      ⟨(some 45), .bin (.int .lss) (.t 44) (.c (.int .i64 3)), none, [44]⟩])
   (RC.cond (.t 45)
    (RC.skip)
    (RC.exit 1)))
  (RC.seq (RC.block 2 (RC.seq (RC.seq (RC.draw [⟨(some 48), .mv (.t 0), none, [0]⟩,
        ⟨(some 49), .nilck (.t 48), none, [48]⟩,
        ⟨(some 50), .fa 1 (.t 49), none, [49]⟩,
        ⟨(some 51), .ld1 (.t 50), none, [50]⟩,
        ⟨(some 52), .bin (.int .sub) (.t 51) (.c (.int .i64 1)), none, [51]⟩,
        ⟨(some 53), .mv (.t 5), none, [5]⟩,
        ⟨(some 54), .bin (.int .add) (.t 52) (.t 53), none, [52, 53]⟩,
        ⟨(some 55), .mv (.t 0), none, [0]⟩,
        ⟨(some 56), .nilck (.t 55), none, [55]⟩,
        ⟨(some 57), .fa 0 (.t 56), none, [56]⟩,
        ⟨(some 58), .ld1 (.t 57), none, [57]⟩,
        ⟨(some 59), .len .str (.t 58), none, [58]⟩,
        ⟨(some 60), .bin (.int .geq) (.t 54) (.t 59), none, [54, 59]⟩,
        ⟨(some 61), .mv (.t 60), none, [60]⟩,
        ⟨(some 62), .mv (.t 0), (some (61, false)), [0, 61]⟩,
        ⟨(some 63), .nilck (.t 62), (some (61, false)), [62, 61]⟩,
        ⟨(some 64), .fa 0 (.t 63), (some (61, false)), [63, 61]⟩,
        ⟨(some 65), .ld1 (.t 64), (some (61, false)), [64, 61]⟩,
        ⟨(some 66), .mv (.t 0), (some (61, false)), [0, 61]⟩,
        ⟨(some 67), .nilck (.t 66), (some (61, false)), [66, 61]⟩,
        ⟨(some 68), .fa 1 (.t 67), (some (61, false)), [67, 61]⟩,
        ⟨(some 69), .ld1 (.t 68), (some (61, false)), [68, 61]⟩,
        ⟨(some 70), .bin (.int .sub) (.t 69) (.c (.int .i64 1)), (some (61, false)), [69, 61]⟩,
        ⟨(some 71), .mv (.t 5), (some (61, false)), [5, 61]⟩,
        ⟨(some 72), .bin (.int .add) (.t 70) (.t 71), (some (61, false)), [70, 71, 61]⟩,
        ⟨(some 73), .ixs (.t 65) (.t 72), (some (61, false)), [65, 72, 61]⟩,
        ⟨(some 74), .call 28 [(.t 73), (.c (.int .u8 48)), (.c (.int .u8 57))], (some (61, false)), [73, 61]⟩,
        ⟨(some 75), .un .not (.t 74), (some (61, false)), [74, 61]⟩,
        ⟨(some 76), .pick (.t 61) (.c (.bool true)) (.t 75), none, [61, 75]⟩] [(3, [26]), (10, [26]), (17, [26]), (21, [26])])
     (RC.cond (.t 76)
      (RC.seq (RC.reg [⟨(some 77), .mv (.t 0), none, [0]⟩,
          ⟨(some 78), .nilck (.t 77), none, [77]⟩,
          ⟨(some 79), .fa 3 (.t 78), none, [78]⟩,
          ⟨none, .st 1 (.t 79) (.c (.int .i64 252)), none, [79]⟩])
       (RC.seq (RC.reg [⟨(some 2), .mv (.c (.int .u8 0)), none, []⟩])
       (RC.ret)))
      (RC.skip)))
    (RC.draw [⟨(some 80), .mv (.t 4), none, [4]⟩,
      ⟨(some 81), .bin (.int .mul) (.c (.int .i64 10)) (.t 80), none, [80]⟩,
      ⟨(some 82), .mv (.t 0), none, [0]⟩,
      ⟨(some 83), .nilck (.t 82), none, [82]⟩,
      ⟨(some 84), .fa 0 (.t 83), none, [83]⟩,
      ⟨(some 85), .ld1 (.t 84), none, [84]⟩,
      ⟨(some 86), .mv (.t 0), none, [0]⟩,
      ⟨(some 87), .nilck (.t 86), none, [86]⟩,
      ⟨(some 88), .fa 1 (.t 87), none, [87]⟩,
      ⟨(some 89), .ld1 (.t 88), none, [88]⟩,
      ⟨(some 90), .bin (.int .sub) (.t 89) (.c (.int .i64 1)), none, [89]⟩,
      ⟨(some 91), .mv (.t 5), none, [5]⟩,
      ⟨(some 92), .bin (.int .add) (.t 90) (.t 91), none, [90, 91]⟩,
      ⟨(some 93), .ixs (.t 85) (.t 92), none, [85, 92]⟩,
      ⟨(some 94), .bin (.int .sub) (.t 93) (.c (.int .u8 48)), none, [93]⟩,
      ⟨(some 95), .cv (.int .i64) (.t 94), none, [94]⟩,
      ⟨(some 96), .bin (.int .add) (.t 81) (.t 95), none, [81, 95]⟩,
      ⟨(some 4), .mv (.t 96), none, [96]⟩] [])))
  (RC.reg [⟨(some 46), .mv (.t 5), none, [5]⟩,
    ⟨(some 47), .bin (.int .add) (.t 46) (.c (.int .i64 1)), none, [46]⟩,
    ⟨(some 5), .mv (.t 47), none, [47]⟩]))
def c58 : RC :=
  RC.seq (RC.reg [⟨(some 2), .mv (.c (.int .u8 0)), none, []⟩])
  (RC.seq (RC.seq (RC.draw [⟨(some 6), .mv (.t 0), none, [0]⟩,
      ⟨(some 7), .nilck (.t 6), none, [6]⟩,
      ⟨(some 8), .fa 1 (.t 7), none, [7]⟩,
      ⟨(some 9), .ld1 (.t 8), none, [8]⟩,
      ⟨(some 10), .mv (.t 0), none, [0]⟩,
      ⟨(some 11), .nilck (.t 10), none, [10]⟩,
      ⟨(some 12), .fa 0 (.t 11), none, [11]⟩,
      ⟨(some 13), .ld1 (.t 12), none, [12]⟩,
      ⟨(some 14), .len .str (.t 13), none, [13]⟩,
      ⟨(some 15), .bin (.int .geq) (.t 9) (.t 14), none, [9, 14]⟩] [])
   (RC.cond (.t 15)
    (RC.seq (RC.reg [⟨(some 16), .mv (.t 0), none, [0]⟩,
        ⟨(some 17), .nilck (.t 16), none, [16]⟩,
        ⟨(some 18), .fa 3 (.t 17), none, [17]⟩,
        ⟨none, .st 1 (.t 18) (.c (.int .i64 252)), none, [18]⟩])
     (RC.seq (RC.reg [⟨(some 2), .mv (.c (.int .u8 0)), none, []⟩])
     (RC.ret)))
    (RC.skip)))
  (RC.seq (RC.draw [⟨(some 19), .mv (.t 0), none, [0]⟩,
     ⟨(some 20), .nilck (.t 19), none, [19]⟩,
     ⟨(some 21), .fa 0 (.t 20), none, [20]⟩,
     ⟨(some 22), .ld1 (.t 21), none, [21]⟩,
     ⟨(some 23), .mv (.t 0), none, [0]⟩,
     ⟨(some 24), .nilck (.t 23), none, [23]⟩,
     ⟨(some 25), .fa 1 (.t 24), none, [24]⟩,
     ⟨(some 26), .ld1 (.t 25), none, [25]⟩,
     ⟨(some 27), .ixs (.t 22) (.t 26), none, [22, 26]⟩,
     ⟨(some 3), .mv (.t 27), none, [27]⟩] [])
  (RC.seq (RC.reg [⟨(some 28), .mv (.t 0), none, [0]⟩,
     ⟨(some 29), .nilck (.t 28), none, [28]⟩,
     ⟨(some 30), .fa 1 (.t 29), none, [29]⟩,
     ⟨(some 31), .ld1 (.t 30), none, [30]⟩,
     ⟨(some 32), .bin (.int .add) (.t 31) (.c (.int .i64 1)), none, [31]⟩,
     ⟨(some 33), .nilck (.t 28), none, [28]⟩,
     ⟨(some 34), .fa 1 (.t 33), none, [33]⟩,
     ⟨none, .st 1 (.t 34) (.t 32), none, [34, 32]⟩])
  (RC.seq (RC.seq (RC.reg [⟨(some 35), .mv (.t 3), none, [3]⟩])
   (RC.block 0 (RC.seq (RC.reg [⟨(some 37), .bin (.int .eql) (.t 35) (.c (.int .u8 110)), none, [35]⟩,
       ⟨(some 36), .mv (.t 37), none, [37]⟩])
    (RC.cond (.t 36)
     (RC.seq (RC.reg [⟨(some 2), .mv (.c (.int .u8 10)), none, []⟩])
      (RC.ret))
     (RC.seq (RC.reg [⟨(some 39), .bin (.int .eql) (.t 35) (.c (.int .u8 116)), none, [35]⟩,
         ⟨(some 38), .mv (.t 39), none, [39]⟩])
      (RC.cond (.t 38)
       (RC.seq (RC.reg [⟨(some 2), .mv (.c (.int .u8 9)), none, []⟩])
        (RC.ret))
       (RC.seq (RC.seq (RC.reg [⟨(some 41), .bin (.int .eql) (.t 35) (.c (.int .u8 34)), none, [35]⟩,
            ⟨(some 40), .mv (.t 41), none, [41]⟩])
         (RC.cond (.t 40)
          (RC.skip)
          (RC.reg [⟨(some 42), .bin (.int .eql) (.t 35) (.c (.int .u8 92)), none, [35]⟩,
             ⟨(some 40), .mv (.t 42), none, [42]⟩])))
        (RC.cond (.t 40)
         (RC.seq (RC.reg [⟨(some 43), .mv (.t 3), none, [3]⟩,
             ⟨(some 2), .mv (.t 43), none, [43]⟩])
          (RC.ret))
         (RC.skip)))))))))
  (RC.seq (RC.reg [⟨(some 4), .mv (.c (.int .i64 0)), none, []⟩])
  (RC.seq (RC.seq (RC.reg [⟨(some 5), .mv (.c (.int .i64 0)), none, []⟩])
   (RC.block 1 (RC.loop c58l1)))
  (RC.seq (RC.reg [⟨(some 97), .mv (.t 0), none, [0]⟩,
     ⟨(some 98), .mv (.t 0), none, [0]⟩,
     ⟨(some 99), .nilck (.t 98), none, [98]⟩,
     ⟨(some 100), .fa 1 (.t 99), none, [99]⟩,
     ⟨(some 101), .ld1 (.t 100), none, [100]⟩,
     ⟨(some 102), .bin (.int .add) (.t 101) (.c (.int .i64 2)), none, [101]⟩,
     ⟨(some 103), .nilck (.t 97), none, [97]⟩,
     ⟨(some 104), .fa 1 (.t 103), none, [103]⟩,
     ⟨none, .st 1 (.t 104) (.t 102), none, [104, 102]⟩])
  (RC.seq (RC.seq (RC.reg [⟨(some 105), .mv (.t 4), none, [4]⟩,
      ⟨(some 106), .bin (.int .gtr) (.t 105) (.c (.int .i64 255)), none, [105]⟩])
   (RC.cond (.t 106)
    (RC.reg [⟨(some 107), .mv (.t 0), none, [0]⟩,
       ⟨(some 108), .nilck (.t 107), none, [107]⟩,
       ⟨(some 109), .fa 3 (.t 108), none, [108]⟩,
       ⟨none, .st 1 (.t 109) (.c (.int .i64 252)), none, [109]⟩])
    (RC.skip)))
  (RC.seq (RC.reg [⟨(some 110), .mv (.t 4), none, [4]⟩,
     ⟨(some 111), .cv (.int .u8) (.t 110), none, [110]⟩,
     ⟨(some 2), .mv (.t 111), none, [111]⟩])
  (RC.ret))))))))))
theorem c58_ok : resK Tryd.prog Tryd.f58.ntmps (Tryd.f58.body.getD .skip) = c58 := by kernel_rfl
theorem c58_res : resR Tryd.prog Tryd.f58.ntmps Tryd.f58.results.toList = [.t 2] := by kernel_rfl
theorem c58_ctr {args : List V} {h : Heap} {K : V → Heap → Prop} (hl : Nat.ble args.length 112 = true) (H : wpC Tryd.prog c58 (RF.ofL args) h fun e r h' => e.ends ∧ ∃ vs, evR r h' [.t 2] = some vs ∧ K (oneOf vs) h') : Ctr Tryd.prog 58 args h K :=
  ctr_of_wp follows namesOk Tryd.func58 (c := Tryd.f58.body.getD .skip) (by kernel_rfl) (by kernel_rfl) hl c58_ok c58_res H

/-- gimlet/gimletref15.Signs -/
def c59 : RC :=
  RC.seq (RC.reg [⟨(some 0), .mv (.c .nilslice), none, []⟩])
  (RC.seq (RC.reg [⟨(some 1), .bsl 17 1 [(.str [])] [(0, 1, (.c (.str [59, 59]))), (1, 1, (.c (.str [58, 61]))), (2, 1, (.c (.str [45, 62]))), (3, 1, (.c (.str [60, 61]))), (4, 1, (.c (.str [59]))), (5, 1, (.c (.str [40]))), (6, 1, (.c (.str [41]))), (7, 1, (.c (.str [44]))), (8, 1, (.c (.str [61]))), (9, 1, (.c (.str [60]))), (10, 1, (.c (.str [43]))), (11, 1, (.c (.str [45]))), (12, 1, (.c (.str [42]))), (13, 1, (.c (.str [47]))), (14, 1, (.c (.str [124]))), (15, 1, (.c (.str [33]))), (16, 1, (.c (.str [95])))], none, []⟩,
     ⟨(some 0), .mv (.t 1), none, [1]⟩])
  (RC.ret))
theorem c59_ok : resK Tryd.prog Tryd.f59.ntmps (Tryd.f59.body.getD .skip) = c59 := by kernel_rfl
theorem c59_res : resR Tryd.prog Tryd.f59.ntmps Tryd.f59.results.toList = [.t 0] := by kernel_rfl
theorem c59_ctr {args : List V} {h : Heap} {K : V → Heap → Prop} (hl : Nat.ble args.length 2 = true) (H : wpC Tryd.prog c59 (RF.ofL args) h fun e r h' => e.ends ∧ ∃ vs, evR r h' [.t 0] = some vs ∧ K (oneOf vs) h') : Ctr Tryd.prog 59 args h K :=
  ctr_of_wp follows namesOk Tryd.func59 (c := Tryd.f59.body.getD .skip) (by kernel_rfl) (by kernel_rfl) hl c59_ok c59_res H

/-- gimlet/gimletref15.long -/
def c61 : RC :=
  RC.seq (RC.reg [⟨(some 2), .mv (.c (.int .i64 0)), none, []⟩,
     ⟨(some 3), .mv (.c (.int .i64 0)), none, []⟩])
  (RC.seq (RC.block 0 (RC.seq (RC.reg [⟨(some 5), .mv (.t 0), none, [0]⟩,
       ⟨(some 6), .bin (.int .lss) (.t 5) (.c (.int .u8 128)), none, [5]⟩,
       ⟨(some 4), .mv (.t 6), none, [6]⟩])
    (RC.cond (.t 4)
     (RC.seq (RC.reg [⟨(some 2), .mv (.c (.int .i64 1)), none, []⟩,
         ⟨(some 3), .mv (.c (.int .i64 0)), none, []⟩])
      (RC.ret))
     (RC.seq (RC.reg [⟨(some 8), .mv (.t 0), none, [0]⟩,
         ⟨(some 9), .call 28 [(.t 8), (.c (.int .u8 192)), (.c (.int .u8 223))], none, [8]⟩,
         ⟨(some 7), .mv (.t 9), none, [9]⟩])
      (RC.cond (.t 7)
       (RC.seq (RC.reg [⟨(some 2), .mv (.c (.int .i64 2)), none, []⟩,
           ⟨(some 3), .mv (.c (.int .i64 128)), none, []⟩])
        (RC.ret))
       (RC.seq (RC.reg [⟨(some 11), .mv (.t 0), none, [0]⟩,
           ⟨(some 12), .call 28 [(.t 11), (.c (.int .u8 224)), (.c (.int .u8 239))], none, [11]⟩,
           ⟨(some 10), .mv (.t 12), none, [12]⟩])
        (RC.cond (.t 10)
         (RC.seq (RC.reg [⟨(some 2), .mv (.c (.int .i64 3)), none, []⟩,
             ⟨(some 3), .mv (.c (.int .i64 2048)), none, []⟩])
          (RC.ret))
         (RC.seq (RC.reg [⟨(some 14), .mv (.t 0), none, [0]⟩,
             ⟨(some 15), .call 28 [(.t 14), (.c (.int .u8 240)), (.c (.int .u8 247))], none, [14]⟩,
             ⟨(some 13), .mv (.t 15), none, [15]⟩])
          (RC.cond (.t 13)
           (RC.seq (RC.reg [⟨(some 2), .mv (.c (.int .i64 4)), none, []⟩,
               ⟨(some 3), .mv (.c (.int .i64 65536)), none, []⟩])
            (RC.ret))
           (RC.skip))))))))))
  (RC.seq (RC.reg [⟨(some 2), .mv (.c (.int .i64 0)), none, []⟩,
     ⟨(some 3), .mv (.c (.int .i64 0)), none, []⟩])
  (RC.ret)))
theorem c61_ok : resK Tryd.prog Tryd.f61.ntmps (Tryd.f61.body.getD .skip) = c61 := by kernel_rfl
theorem c61_res : resR Tryd.prog Tryd.f61.ntmps Tryd.f61.results.toList = [.t 2, .t 3] := by kernel_rfl
theorem c61_ctr {args : List V} {h : Heap} {K : V → Heap → Prop} (hl : Nat.ble args.length 16 = true) (H : wpC Tryd.prog c61 (RF.ofL args) h fun e r h' => e.ends ∧ ∃ vs, evR r h' [.t 2, .t 3] = some vs ∧ K (oneOf vs) h') : Ctr Tryd.prog 61 args h K :=
  ctr_of_wp follows namesOk Tryd.func61 (c := Tryd.f61.body.getD .skip) (by kernel_rfl) (by kernel_rfl) hl c61_ok c61_res H

/-- gimlet/gimletref15.Named -/
def c69l1 : RC :=
  RC.seq (RC.seq (RC.reg [⟨(some 13), .mv (.t 5), none, [5]⟩,
      ⟨(some 14), .mv (.t 1), none, [1]⟩,
      ⟨(some 15), .len .str (.t 14), none, [14]⟩,
      ⟨(some 16), .bin (.int .lss) (.t 13) (.t 15), none, [13, 15]⟩])
   (RC.cond (.t 16)
    (RC.skip)
    (RC.exit 0)))
  (RC.seq (RC.block 1 (RC.seq (RC.reg [⟨(some 19), .mv (.t 1), none, [1]⟩,
       ⟨(some 20), .mv (.t 5), none, [5]⟩,
       ⟨(some 21), .ixs (.t 19) (.t 20), none, [19, 20]⟩,
       ⟨(some 22), .call 53 [(.t 21)], none, [21]⟩,
       ⟨(some 23), .un .not (.t 22), none, [22]⟩])
    (RC.cond (.t 23)
     (RC.seq (RC.reg [⟨(some 4), .mv (.c (.bool false)), none, []⟩])
      (RC.ret))
     (RC.skip))))
  (RC.reg [⟨(some 17), .mv (.t 5), none, [5]⟩,
    ⟨(some 18), .bin (.int .add) (.t 17) (.c (.int .i64 1)), none, [17]⟩,
    ⟨(some 5), .mv (.t 18), none, [18]⟩]))
def c69 : RC :=
  RC.seq (RC.reg [⟨(some 4), .mv (.c (.bool false)), none, []⟩])
  (RC.seq (RC.seq (RC.reg [⟨(some 6), .mv (.t 1), none, [1]⟩,
      ⟨(some 7), .bin (.str .eql) (.t 6) (.c (.str [])), none, [6]⟩,
      ⟨(some 8), .mv (.t 7), none, [7]⟩,
      ⟨(some 9), .mv (.t 1), (some (8, false)), [1, 8]⟩,
      ⟨(some 10), .len .str (.t 9), (some (8, false)), [9, 8]⟩,
      ⟨(some 11), .bin (.int .gtr) (.t 10) (.c (.int .i64 64)), (some (8, false)), [10, 8]⟩,
      ⟨(some 12), .pick (.t 8) (.c (.bool true)) (.t 11), none, [8, 11]⟩])
   (RC.cond (.t 12)
    (RC.seq (RC.reg [⟨(some 4), .mv (.c (.bool false)), none, []⟩])
     (RC.ret))
    (RC.skip)))
  (RC.seq (RC.seq (RC.reg [⟨(some 5), .mv (.c (.int .i64 0)), none, []⟩])
   (RC.block 0 (RC.loop c69l1)))
  (RC.seq (RC.seq (RC.reg [⟨(some 24), .mv (.t 0), none, [0]⟩])
   (RC.block 2 (RC.seq (RC.reg [⟨(some 26), .bin (.int .eql) (.t 24) (.c (.int .i64 4)), none, [24]⟩,
       ⟨(some 25), .mv (.t 26), none, [26]⟩])
    (RC.cond (.t 25)
     (RC.seq (RC.reg [⟨(some 27), .mv (.t 1), none, [1]⟩,
         ⟨(some 28), .ixs (.t 27) (.c (.int .i64 0)), none, [27]⟩,
         ⟨(some 29), .call 28 [(.t 28), (.c (.int .u8 65)), (.c (.int .u8 90))], none, [28]⟩,
         ⟨(some 4), .mv (.t 29), none, [29]⟩])
      (RC.ret))
     (RC.seq (RC.reg [⟨(some 31), .bin (.int .eql) (.t 24) (.c (.int .i64 5)), none, [24]⟩,
         ⟨(some 30), .mv (.t 31), none, [31]⟩])
      (RC.cond (.t 30)
       (RC.seq (RC.reg [⟨(some 32), .mv (.t 1), none, [1]⟩,
           ⟨(some 33), .ixs (.t 32) (.c (.int .i64 0)), none, [32]⟩,
           ⟨(some 34), .call 28 [(.t 33), (.c (.int .u8 97)), (.c (.int .u8 122))], none, [33]⟩,
           ⟨(some 4), .mv (.t 34), none, [34]⟩])
        (RC.ret))
       (RC.skip)))))))
  (RC.seq (RC.reg [⟨(some 35), .mv (.t 1), none, [1]⟩,
     ⟨(some 36), .ixs (.t 35) (.c (.int .i64 0)), none, [35]⟩,
     ⟨(some 37), .call 28 [(.t 36), (.c (.int .u8 97)), (.c (.int .u8 122))], none, [36]⟩,
     ⟨(some 38), .mv (.t 37), none, [37]⟩,
     ⟨(some 39), .mv (.t 1), (some (38, false)), [1, 38]⟩,
     ⟨(some 40), .ixs (.t 39) (.c (.int .i64 0)), (some (38, false)), [39, 38]⟩,
     ⟨(some 41), .bin (.int .eql) (.t 40) (.c (.int .u8 95)), (some (38, false)), [40, 38]⟩,
     ⟨(some 42), .pick (.t 38) (.c (.bool true)) (.t 41), none, [38, 41]⟩,
     ⟨(some 43), .mv (.t 42), none, [42]⟩,
     ⟨(some 44), .mv (.t 1), (some (43, true)), [1, 43]⟩,
     ⟨(some 45), .bin (.str .neq) (.t 44) (.c (.str [95])), (some (43, true)), [44, 43]⟩,
     ⟨(some 46), .pick (.t 43) (.t 45) (.c (.bool false)), none, [43, 45]⟩,
     ⟨(some 47), .mv (.t 46), none, [46]⟩,
     ⟨(some 48), .mv (.t 1), (some (47, true)), [1, 47]⟩,
     ⟨(some 49), .call 55 [], (some (47, true)), [47]⟩,
     ⟨(some 50), .call 54 [(.t 48), (.t 49)], (some (47, true)), [48, 49, 47]⟩,
     ⟨(some 51), .un .not (.t 50), (some (47, true)), [50, 47]⟩,
     ⟨(some 52), .pick (.t 47) (.t 51) (.c (.bool false)), none, [47, 51]⟩,
     ⟨(some 4), .mv (.t 52), none, [52]⟩])
  (RC.ret)))))
theorem c69_ok : resK Tryd.prog Tryd.f69.ntmps (Tryd.f69.body.getD .skip) = c69 := by kernel_rfl
theorem c69_res : resR Tryd.prog Tryd.f69.ntmps Tryd.f69.results.toList = [.t 4] := by kernel_rfl
theorem c69_ctr {args : List V} {h : Heap} {K : V → Heap → Prop} (hl : Nat.ble args.length 53 = true) (H : wpC Tryd.prog c69 (RF.ofL args) h fun e r h' => e.ends ∧ ∃ vs, evR r h' [.t 4] = some vs ∧ K (oneOf vs) h') : Ctr Tryd.prog 69 args h K :=
  ctr_of_wp follows namesOk Tryd.func69 (c := Tryd.f69.body.getD .skip) (by kernel_rfl) (by kernel_rfl) hl c69_ok c69_res H

/-- gimlet/gimletref15.Dec -/
def c70 : RC :=
  RC.seq (RC.reg [⟨(some 2), .mv (.c (.str [])), none, []⟩])
  (RC.seq (RC.seq (RC.reg [⟨(some 3), .mv (.t 0), none, [0]⟩,
      ⟨(some 4), .bin (.int .lss) (.t 3) (.c (.int .i64 10)), none, [3]⟩])
   (RC.cond (.t 4)
    (RC.seq (RC.reg [⟨(some 5), .mv (.t 0), none, [0]⟩,
        ⟨(some 6), .mv (.t 0), none, [0]⟩,
        ⟨(some 7), .bin (.int .add) (.t 6) (.c (.int .i64 1)), none, [6]⟩,
        ⟨(some 8), .slstr (.c (.str [48, 49, 50, 51, 52, 53, 54, 55, 56, 57])) (some (.t 5)) (some (.t 7)) none, none, [5, 7]⟩,
        ⟨(some 2), .mv (.t 8), none, [8]⟩])
     (RC.ret))
    (RC.skip)))
  (RC.seq (RC.reg [⟨(some 9), .mv (.t 0), none, [0]⟩,
     ⟨(some 10), .bin (.int .quo) (.t 9) (.c (.int .i64 10)), none, [9]⟩,
     ⟨(some 11), .call 70 [(.t 10)], none, [10]⟩,
     ⟨(some 12), .mv (.t 0), none, [0]⟩,
     ⟨(some 13), .bin (.int .rem) (.t 12) (.c (.int .i64 10)), none, [12]⟩,
     ⟨(some 14), .call 70 [(.t 13)], none, [13]⟩,
     ⟨(some 15), .bin (.str .add) (.t 11) (.t 14), none, [11, 14]⟩,
     ⟨(some 2), .mv (.t 15), none, [15]⟩])
  (RC.ret)))
theorem c70_ok : resK Tryd.prog Tryd.f70.ntmps (Tryd.f70.body.getD .skip) = c70 := by kernel_rfl
theorem c70_res : resR Tryd.prog Tryd.f70.ntmps Tryd.f70.results.toList = [.t 2] := by kernel_rfl
theorem c70_ctr {args : List V} {h : Heap} {K : V → Heap → Prop} (hl : Nat.ble args.length 16 = true) (H : wpC Tryd.prog c70 (RF.ofL args) h fun e r h' => e.ends ∧ ∃ vs, evR r h' [.t 2] = some vs ∧ K (oneOf vs) h') : Ctr Tryd.prog 70 args h K :=
  ctr_of_wp follows namesOk Tryd.func70 (c := Tryd.f70.body.getD .skip) (by kernel_rfl) (by kernel_rfl) hl c70_ok c70_res H

/-- gimlet/gimletref15.quoted -/
def c71l1 : RC :=
  RC.seq (RC.seq (RC.reg [⟨(some 7), .mv (.t 4), none, [4]⟩,
      ⟨(some 8), .mv (.t 0), none, [0]⟩,
      ⟨(some 9), .len .str (.t 8), none, [8]⟩,
      ⟨(some 10), .bin (.int .lss) (.t 7) (.t 9), none, [7, 9]⟩])
   (RC.cond (.t 10)
    (RC.skip)
    (RC.exit 0)))
  (RC.seq (RC.block 1 (RC.seq (RC.reg [⟨(some 13), .mv (.t 0), none, [0]⟩,
       ⟨(some 14), .mv (.t 4), none, [4]⟩,
       ⟨(some 15), .ixs (.t 13) (.t 14), none, [13, 14]⟩,
       ⟨(some 5), .mv (.t 15), none, [15]⟩])
    (RC.seq (RC.seq (RC.reg [⟨(some 16), .mv (.t 5), none, [5]⟩,
        ⟨(some 17), .bin (.int .lss) (.t 16) (.c (.int .u8 32)), none, [16]⟩,
        ⟨(some 18), .mv (.t 17), none, [17]⟩,
        ⟨(some 19), .mv (.t 5), (some (18, false)), [5, 18]⟩,
        ⟨(some 20), .bin (.int .gtr) (.t 19) (.c (.int .u8 126)), (some (18, false)), [19, 18]⟩,
        ⟨(some 21), .pick (.t 18) (.c (.bool true)) (.t 20), none, [18, 20]⟩])
     (RC.cond (.t 21)
      (RC.seq (RC.reg [⟨(some 22), .mv (.t 3), none, [3]⟩,
          ⟨(some 23), .mv (.t 5), none, [5]⟩,
          ⟨(some 24), .bin (.int .quo) (.t 23) (.c (.int .u8 100)), none, [23]⟩,
          ⟨(some 25), .bin (.int .add) (.c (.int .u8 48)) (.t 24), none, [24]⟩,
          ⟨(some 26), .mv (.t 5), none, [5]⟩,
          ⟨(some 27), .bin (.int .quo) (.t 26) (.c (.int .u8 10)), none, [26]⟩,
          ⟨(some 28), .bin (.int .rem) (.t 27) (.c (.int .u8 10)), none, [27]⟩,
          ⟨(some 29), .bin (.int .add) (.c (.int .u8 48)) (.t 28), none, [28]⟩,
          ⟨(some 30), .mv (.t 5), none, [5]⟩,
          ⟨(some 31), .bin (.int .rem) (.t 30) (.c (.int .u8 10)), none, [30]⟩,
          ⟨(some 32), .bin (.int .add) (.c (.int .u8 48)) (.t 31), none, [31]⟩,
          ⟨(some 33), .bsl 4 1 [(.int .u8 0)] [(0, 1, (.c (.int .u8 92))), (1, 1, (.t 25)), (2, 1, (.t 29)), (3, 1, (.t 32))], none, [25, 29, 32]⟩,
          ⟨(some 34), .app 1 (.t 22) (.t 33), none, [22, 33]⟩,
          ⟨(some 3), .mv (.t 34), none, [34]⟩])
       (RC.exit 1))
      (RC.skip)))
    (RC.seq (RC.seq (RC.reg [⟨(some 35), .mv (.t 5), none, [5]⟩,
        ⟨(some 36), .bin (.int .eql) (.t 35) (.c (.int .u8 34)), none, [35]⟩,
        ⟨(some 37), .mv (.t 36), none, [36]⟩,
        ⟨(some 38), .mv (.t 5), (some (37, false)), [5, 37]⟩,
        ⟨(some 39), .bin (.int .eql) (.t 38) (.c (.int .u8 92)), (some (37, false)), [38, 37]⟩,
        ⟨(some 40), .pick (.t 37) (.c (.bool true)) (.t 39), none, [37, 39]⟩])
     (RC.cond (.t 40)
      (RC.reg [⟨(some 41), .mv (.t 3), none, [3]⟩,
         ⟨(some 42), .bsl 1 1 [(.int .u8 0)] [(0, 1, (.c (.int .u8 92)))], none, []⟩,
         ⟨(some 43), .app 1 (.t 41) (.t 42), none, [41, 42]⟩,
         ⟨(some 3), .mv (.t 43), none, [43]⟩])
      (RC.skip)))
    (RC.reg [⟨(some 44), .mv (.t 3), none, [3]⟩,
      ⟨(some 45), .mv (.t 5), none, [5]⟩,
      ⟨(some 46), .bsl 1 1 [(.int .u8 0)] [(0, 1, (.t 45))], none, [45]⟩,
      ⟨(some 47), .app 1 (.t 44) (.t 46), none, [44, 46]⟩,
      ⟨(some 3), .mv (.t 47), none, [47]⟩])))))
  (RC.reg [⟨(some 11), .mv (.t 4), none, [4]⟩,
    ⟨(some 12), .bin (.int .add) (.t 11) (.c (.int .i64 1)), none, [11]⟩,
    ⟨(some 4), .mv (.t 12), none, [12]⟩]))
def c71 : RC :=
  RC.seq (RC.reg [⟨(some 2), .mv (.c (.str [])), none, []⟩])
  (RC.seq (RC.reg [⟨(some 6), .bsl 1 1 [(.int .u8 0)] [(0, 1, (.c (.int .u8 34)))], none, []⟩,
     ⟨(some 3), .mv (.t 6), none, [6]⟩])
  (RC.seq (RC.seq (RC.reg [⟨(some 4), .mv (.c (.int .i64 0)), none, []⟩])
   (RC.block 0 (RC.loop c71l1)))
  (RC.seq (RC.reg [⟨(some 48), .mv (.t 3), none, [3]⟩,
     ⟨(some 49), .bsl 1 1 [(.int .u8 0)] [(0, 1, (.c (.int .u8 34)))], none, []⟩,
     ⟨(some 50), .app 1 (.t 48) (.t 49), none, [48, 49]⟩,
     ⟨(some 51), .cv .str (.t 50), none, [50]⟩,
     ⟨(some 2), .mv (.t 51), none, [51]⟩])
  (RC.ret))))
theorem c71_ok : resK Tryd.prog Tryd.f71.ntmps (Tryd.f71.body.getD .skip) = c71 := by kernel_rfl
theorem c71_res : resR Tryd.prog Tryd.f71.ntmps Tryd.f71.results.toList = [.t 2] := by kernel_rfl
theorem c71_ctr {args : List V} {h : Heap} {K : V → Heap → Prop} (hl : Nat.ble args.length 52 = true) (H : wpC Tryd.prog c71 (RF.ofL args) h fun e r h' => e.ends ∧ ∃ vs, evR r h' [.t 2] = some vs ∧ K (oneOf vs) h') : Ctr Tryd.prog 71 args h K :=
  ctr_of_wp follows namesOk Tryd.func71 (c := Tryd.f71.body.getD .skip) (by kernel_rfl) (by kernel_rfl) hl c71_ok c71_res H
end Go.Proofs.YthcgccnbhdociaaDoor

namespace Go.Proofs.YthcgccnbhdociaaDoor
open Go Am
set_option linter.unusedSectionVars false
set_option linter.unusedSimpArgs false
set_option linter.unusedVariables false

theorem pure_calls {f : FuncId} {args : List V} {h : Heap} {v : V} (c : Ctr Tryd.prog f args h fun x h' => x = v ∧ h' = h) : CallsV Tryd.prog f args h v h := by
  obtain ⟨x, h', q, rfl, rfl⟩ := c
  exact q

def digitB (c : Int) : Bool := decide (48 ≤ c) && decide (c ≤ 57)
def smallB (c : Int) : Bool := decide (97 ≤ c) && decide (c ≤ 122)
def greatB (c : Int) : Bool := decide (65 ≤ c) && decide (c ≤ 90)
def letterB (c : Int) : Bool := digitB c || smallB c || greatB c || decide (c = 95) || decide (c = 39)
def withinB (c a b : Int) : Bool := decide (a ≤ c) && decide (c ≤ b)

theorem digit_pure (c : Int) (h : Heap) : CallsV Tryd.prog 44 [.int .u8 c] h (.bool (digitB c)) h := by
  refine pure_calls (c44_ctr rfl (wpK_of ?_))
  unfold c44
  simp +contextual only [↓wA, wB, wZ, repeatV, RX.evs, spl, over, ones, Ex.ends, evR, oneOf, top, ↓reduceIte, Nat.reduceEqDiff, Nat.reduceLeDiff, Nat.reduceAdd, Nat.reduceSub, Nat.reduceMul, reduceCtorEq, Int.reduceEq, Int.reduceLT, Int.reduceLE, Int.reduceNeg, Int.reduceAdd, Int.reduceSub]
  rfl
theorem small_pure (c : Int) (h : Heap) : CallsV Tryd.prog 47 [.int .u8 c] h (.bool (smallB c)) h := by
  refine pure_calls (c47_ctr rfl (wpK_of ?_))
  unfold c47
  simp +contextual only [↓wA, wB, wZ, repeatV, RX.evs, spl, over, ones, Ex.ends, evR, oneOf, top, ↓reduceIte, Nat.reduceEqDiff, Nat.reduceLeDiff, Nat.reduceAdd, Nat.reduceSub, Nat.reduceMul, reduceCtorEq, Int.reduceEq, Int.reduceLT, Int.reduceLE, Int.reduceNeg, Int.reduceAdd, Int.reduceSub]
  rfl
theorem great_pure (c : Int) (h : Heap) : CallsV Tryd.prog 49 [.int .u8 c] h (.bool (greatB c)) h := by
  refine pure_calls (c49_ctr rfl (wpK_of ?_))
  unfold c49
  simp +contextual only [↓wA, wB, wZ, repeatV, RX.evs, spl, over, ones, Ex.ends, evR, oneOf, top, ↓reduceIte, Nat.reduceEqDiff, Nat.reduceLeDiff, Nat.reduceAdd, Nat.reduceSub, Nat.reduceMul, reduceCtorEq, Int.reduceEq, Int.reduceLT, Int.reduceLE, Int.reduceNeg, Int.reduceAdd, Int.reduceSub]
  rfl
theorem within_pure (c a b : Int) (h : Heap) : CallsV Tryd.prog 28 [.int .u8 c, .int .u8 a, .int .u8 b] h (.bool (withinB c a b)) h := by
  refine pure_calls (c28_ctr rfl (wpK_of ?_))
  unfold c28
  simp +contextual only [↓wA, wB, wZ, repeatV, RX.evs, spl, over, ones, Ex.ends, evR, oneOf, top, ↓reduceIte, Nat.reduceEqDiff, Nat.reduceLeDiff, Nat.reduceAdd, Nat.reduceSub, Nat.reduceMul, reduceCtorEq, Int.reduceEq, Int.reduceLT, Int.reduceLE, Int.reduceNeg, Int.reduceAdd, Int.reduceSub]
  rfl
theorem hasPrefix_pure (s p : List UInt8) (h : Heap) : CallsV Tryd.prog 73 [.str s, .str p] h (.bool (p.isPrefixOf s)) h := by
  refine pure_calls (c73_ctr rfl (wpK_of ?_))
  unfold c73
  have h0 : (0 ≤ (p.length : Int)) = True := eq_true (by omega)
  by_cases hl : p.length ≤ s.length
  · have h1 : ((p.length : Int) ≤ (s.length : Int)) = True := eq_true (by omega)
    simp +contextual only [h0, h1, Int.toNat_natCast, ↓wA, wB, wZ, repeatV, RX.evs, spl, over, ones, Ex.ends, evR, oneOf, top, ↓reduceIte, Nat.reduceEqDiff, Nat.reduceLeDiff, Nat.reduceAdd, Nat.reduceSub, Nat.reduceMul, reduceCtorEq, Int.reduceEq, Int.reduceLT, Int.reduceLE, Int.reduceNeg, Int.reduceAdd, Int.reduceSub]
    rw [Bool.eq_iff_iff, decide_eq_true_eq, List.isPrefixOf_iff_prefix, List.prefix_iff_eq_take]
    exact ⟨fun e => e.symm, fun e => e.symm⟩
  · have h1 : ((p.length : Int) ≤ (s.length : Int)) = False := eq_false (by omega)
    simp +contextual only [h0, h1, Int.toNat_natCast, ↓wA, wB, wZ, repeatV, RX.evs, spl, over, ones, Ex.ends, evR, oneOf, top, ↓reduceIte, Nat.reduceEqDiff, Nat.reduceLeDiff, Nat.reduceAdd, Nat.reduceSub, Nat.reduceMul, reduceCtorEq, Int.reduceEq, Int.reduceLT, Int.reduceLE, Int.reduceNeg, Int.reduceAdd, Int.reduceSub]
    rw [eq_comm, ← Bool.not_eq_true, List.isPrefixOf_iff_prefix]
    exact fun e => hl e.length_le
theorem hasPrefix0_pure (s p : List UInt8) (h : Heap) : CallsV Tryd.prog 43 [.str s, .str p] h (.bool (p.isPrefixOf s)) h := by
  refine pure_calls (c43_ctr rfl (wpK_of ?_))
  unfold c43
  simp +contextual only [↓wA, wB, wZ, repeatV, RX.evs, spl, over, ones, Ex.ends, evR, oneOf, top, ↓reduceIte, Nat.reduceEqDiff, Nat.reduceLeDiff, Nat.reduceAdd, Nat.reduceSub, Nat.reduceMul, reduceCtorEq, Int.reduceEq, Int.reduceLT, Int.reduceLE, Int.reduceNeg, Int.reduceAdd, Int.reduceSub]
  refine callK_pure (hasPrefix_pure s p h) ?_
  simp +contextual only [↓wA, wB, wZ, repeatV, RX.evs, spl, over, ones, Ex.ends, evR, oneOf, top, ↓reduceIte, Nat.reduceEqDiff, Nat.reduceLeDiff, Nat.reduceAdd, Nat.reduceSub, Nat.reduceMul, reduceCtorEq, Int.reduceEq, Int.reduceLT, Int.reduceLE, Int.reduceNeg, Int.reduceAdd, Int.reduceSub]
theorem letter_pure (c : Int) (h : Heap) : CallsV Tryd.prog 77 [.int .u8 c] h (.bool (letterB c)) h := by
  refine pure_calls (c77_ctr rfl (wpK_of ?_))
  unfold c77
  simp +contextual only [↓wA, wB, wZ, repeatV, RX.evs, spl, over, ones, Ex.ends, evR, oneOf, top, ↓reduceIte, Nat.reduceEqDiff, Nat.reduceLeDiff, Nat.reduceAdd, Nat.reduceSub, Nat.reduceMul, reduceCtorEq, Int.reduceEq, Int.reduceLT, Int.reduceLE, Int.reduceNeg, Int.reduceAdd, Int.reduceSub]
  refine callK_pure (digit_pure c h) ?_
  simp +contextual only [↓wA, wB, wZ, repeatV, RX.evs, spl, over, ones, Ex.ends, evR, oneOf, top, ↓reduceIte, Nat.reduceEqDiff, Nat.reduceLeDiff, Nat.reduceAdd, Nat.reduceSub, Nat.reduceMul, reduceCtorEq, Int.reduceEq, Int.reduceLT, Int.reduceLE, Int.reduceNeg, Int.reduceAdd, Int.reduceSub]
  refine gateK_callF0 (.bool (smallB c)) (fun hc => by simp only [hc, ↓wA, wB, wZ, repeatV, RX.evs, spl, over, ones, Ex.ends, evR, oneOf, top, ↓reduceIte, Nat.reduceEqDiff, Nat.reduceLeDiff, Nat.reduceAdd, Nat.reduceSub, Nat.reduceMul, reduceCtorEq, Int.reduceEq, Int.reduceLT, Int.reduceLE, Int.reduceNeg, Int.reduceAdd, Int.reduceSub]; exact small_pure _ _) ?_
  simp +contextual only [↓wA, wB, wZ, repeatV, RX.evs, spl, over, ones, Ex.ends, evR, oneOf, top, ↓reduceIte, Nat.reduceEqDiff, Nat.reduceLeDiff, Nat.reduceAdd, Nat.reduceSub, Nat.reduceMul, reduceCtorEq, Int.reduceEq, Int.reduceLT, Int.reduceLE, Int.reduceNeg, Int.reduceAdd, Int.reduceSub]
  refine gateK_callF0 (.bool (greatB c)) (fun hc => by simp only [hc, ↓wA, wB, wZ, repeatV, RX.evs, spl, over, ones, Ex.ends, evR, oneOf, top, ↓reduceIte, Nat.reduceEqDiff, Nat.reduceLeDiff, Nat.reduceAdd, Nat.reduceSub, Nat.reduceMul, reduceCtorEq, Int.reduceEq, Int.reduceLT, Int.reduceLE, Int.reduceNeg, Int.reduceAdd, Int.reduceSub]; exact great_pure _ _) ?_
  simp +contextual only [↓wA, wB, wZ, repeatV, RX.evs, spl, over, ones, Ex.ends, evR, oneOf, top, ↓reduceIte, Nat.reduceEqDiff, Nat.reduceLeDiff, Nat.reduceAdd, Nat.reduceSub, Nat.reduceMul, reduceCtorEq, Int.reduceEq, Int.reduceLT, Int.reduceLE, Int.reduceNeg, Int.reduceAdd, Int.reduceSub]
  rfl
theorem Letter_pure (c : Int) (h : Heap) : CallsV Tryd.prog 53 [.int .u8 c] h (.bool (withinB c 97 122 || withinB c 65 90 || withinB c 48 57 || decide (c = 95) || decide (c = 39))) h := by
  refine pure_calls (c53_ctr rfl (wpK_of ?_))
  unfold c53
  simp +contextual only [↓wA, wB, wZ, repeatV, RX.evs, spl, over, ones, Ex.ends, evR, oneOf, top, ↓reduceIte, Nat.reduceEqDiff, Nat.reduceLeDiff, Nat.reduceAdd, Nat.reduceSub, Nat.reduceMul, reduceCtorEq, Int.reduceEq, Int.reduceLT, Int.reduceLE, Int.reduceNeg, Int.reduceAdd, Int.reduceSub]
  refine callK_pure (within_pure c _ _ h) ?_
  simp +contextual only [↓wA, wB, wZ, repeatV, RX.evs, spl, over, ones, Ex.ends, evR, oneOf, top, ↓reduceIte, Nat.reduceEqDiff, Nat.reduceLeDiff, Nat.reduceAdd, Nat.reduceSub, Nat.reduceMul, reduceCtorEq, Int.reduceEq, Int.reduceLT, Int.reduceLE, Int.reduceNeg, Int.reduceAdd, Int.reduceSub]
  refine gateK_callF0 (.bool (withinB c 65 90)) (fun hc => by simp only [hc, ↓wA, wB, wZ, repeatV, RX.evs, spl, over, ones, Ex.ends, evR, oneOf, top, ↓reduceIte, Nat.reduceEqDiff, Nat.reduceLeDiff, Nat.reduceAdd, Nat.reduceSub, Nat.reduceMul, reduceCtorEq, Int.reduceEq, Int.reduceLT, Int.reduceLE, Int.reduceNeg, Int.reduceAdd, Int.reduceSub]; exact within_pure _ _ _ _) ?_
  simp +contextual only [↓wA, wB, wZ, repeatV, RX.evs, spl, over, ones, Ex.ends, evR, oneOf, top, ↓reduceIte, Nat.reduceEqDiff, Nat.reduceLeDiff, Nat.reduceAdd, Nat.reduceSub, Nat.reduceMul, reduceCtorEq, Int.reduceEq, Int.reduceLT, Int.reduceLE, Int.reduceNeg, Int.reduceAdd, Int.reduceSub]
  refine gateK_callF0 (.bool (withinB c 48 57)) (fun hc => by simp only [hc, ↓wA, wB, wZ, repeatV, RX.evs, spl, over, ones, Ex.ends, evR, oneOf, top, ↓reduceIte, Nat.reduceEqDiff, Nat.reduceLeDiff, Nat.reduceAdd, Nat.reduceSub, Nat.reduceMul, reduceCtorEq, Int.reduceEq, Int.reduceLT, Int.reduceLE, Int.reduceNeg, Int.reduceAdd, Int.reduceSub]; exact within_pure _ _ _ _) ?_
  simp +contextual only [↓wA, wB, wZ, repeatV, RX.evs, spl, over, ones, Ex.ends, evR, oneOf, top, ↓reduceIte, Nat.reduceEqDiff, Nat.reduceLeDiff, Nat.reduceAdd, Nat.reduceSub, Nat.reduceMul, reduceCtorEq, Int.reduceEq, Int.reduceLT, Int.reduceLE, Int.reduceNeg, Int.reduceAdd, Int.reduceSub]

/-- scanner.has, reader.starts -/
theorem has_pure (s p : List UInt8) (at' : Int) (rest : List V) (b : Pa) (esz : Nat) (st : Bool) (h : Heap) (hb : h.get b = .ofL (.str s :: .int .i64 at' :: rest) esz st) (h0 : 0 ≤ at') (h1 : at' ≤ s.length) :
    CallsV Tryd.prog 24 [.ptr b 0, .str p] h (.bool (p.isPrefixOf (s.drop at'.toNat))) h := by
  refine pure_calls (c24_ctr rfl (wpK_of ?_))
  unfold c24
  have f0 : (0 ≤ at') = True := eq_true h0
  have f1 : (at' ≤ (s.length : Int)) = True := eq_true h1
  simp +contextual only [hb, f0, f1, ↓wA, wB, wZ, repeatV, RX.evs, spl, over, ones, Ex.ends, evR, oneOf, top, ↓reduceIte, Nat.reduceEqDiff, Nat.reduceLeDiff, Nat.reduceAdd, Nat.reduceSub, Nat.reduceMul, reduceCtorEq, Int.reduceEq, Int.reduceLT, Int.reduceLE, Int.reduceNeg, Int.reduceAdd, Int.reduceSub]
  refine callK_pure (hasPrefix0_pure _ p h) ?_
  simp +contextual only [hb, f0, f1, ↓wA, wB, wZ, repeatV, RX.evs, spl, over, ones, Ex.ends, evR, oneOf, top, ↓reduceIte, Nat.reduceEqDiff, Nat.reduceLeDiff, Nat.reduceAdd, Nat.reduceSub, Nat.reduceMul, reduceCtorEq, Int.reduceEq, Int.reduceLT, Int.reduceLE, Int.reduceNeg, Int.reduceAdd, Int.reduceSub]

theorem starts_pure (s p : List UInt8) (at' : Int) (rest : List V) (b : Pa) (esz : Nat) (st : Bool) (h : Heap) (hb : h.get b = .ofL (.str s :: .int .i64 at' :: rest) esz st) (h0 : 0 ≤ at') (h1 : at' ≤ s.length) (hs : s.length ≤ 100000) (hp : p.length ≤ 100000) :
    CallsV Tryd.prog 51 [.ptr b 0, .str p] h (.bool (p.isPrefixOf (s.drop at'.toNat))) h := by
  refine pure_calls (c51_ctr rfl (wpK_of ?_))
  unfold c51
  have w1 : IntKind.i64.wrap ((s.length : Int) - at') = (s.length : Int) - at' := wrap_i64 (by omega) (by omega)
  have w2 : IntKind.i64.wrap (at' + (p.length : Int)) = at' + (p.length : Int) := wrap_i64 (by omega) (by omega)
  by_cases hc : (p.length : Int) ≤ (s.length : Int) - at'
  · have f0 : (0 ≤ at') = True := eq_true h0
    have f1 : (at' ≤ at' + (p.length : Int)) = True := eq_true (by omega)
    have f2 : (at' + (p.length : Int) ≤ (s.length : Int)) = True := eq_true (by omega)
    simp +contextual only [hb, w1, w2, hc, f0, f1, f2, ↓wA, wB, wZ, repeatV, RX.evs, spl, over, ones, Ex.ends, evR, oneOf, top, ↓reduceIte, Nat.reduceEqDiff, Nat.reduceLeDiff, Nat.reduceAdd, Nat.reduceSub, Nat.reduceMul, reduceCtorEq, Int.reduceEq, Int.reduceLT, Int.reduceLE, Int.reduceNeg, Int.reduceAdd, Int.reduceSub]
    rw [show (at' + (p.length : Int)).toNat - at'.toNat = p.length from by omega]
    rw [Bool.eq_iff_iff, decide_eq_true_eq, List.isPrefixOf_iff_prefix, List.prefix_iff_eq_take]
    exact ⟨fun e => e.symm, fun e => e.symm⟩
  · simp +contextual only [hb, w1, w2, hc, ↓wA, wB, wZ, repeatV, RX.evs, spl, over, ones, Ex.ends, evR, oneOf, top, ↓reduceIte, Nat.reduceEqDiff, Nat.reduceLeDiff, Nat.reduceAdd, Nat.reduceSub, Nat.reduceMul, reduceCtorEq, Int.reduceEq, Int.reduceLT, Int.reduceLE, Int.reduceNeg, Int.reduceAdd, Int.reduceSub]
    rw [eq_comm, ← Bool.not_eq_true, List.isPrefixOf_iff_prefix]
    intro e
    have := e.length_le
    rw [List.length_drop] at this
    omega
end Go.Proofs.YthcgccnbhdociaaDoor

namespace Go.Proofs.YthcgccnbhdociaaDoor
open Go Am
set_option linter.unusedSectionVars false
set_option linter.unusedSimpArgs false
set_option linter.unusedVariables false

/-- how many bytes of a rest a note takes, so many being open; none: it does not end -/
def noteM : List UInt8 → Int → Option Nat
  | [], _ => none
  | [_], _ => none
  | x :: y :: r, d => if x = 40 ∧ y = 42 then (noteM r (d + 1)).map (· + 2) else if x = 42 ∧ y = 41 then (if d - 1 = 0 then some 2 else (noteM r (d - 1)).map (· + 2)) else (noteM (y :: r) d).map (· + 1)

theorem noteM_step (r : List UInt8) (d : Int) (h : r ≠ []) : noteM r d = if ([40, 42] : List UInt8).isPrefixOf r = true then (noteM (r.drop 2) (d + 1)).map (· + 2) else
    if ([42, 41] : List UInt8).isPrefixOf r = true then (if d - 1 = 0 then some 2 else (noteM (r.drop 2) (d - 1)).map (· + 2)) else (noteM (r.drop 1) d).map (· + 1) := by
  match r, h with
  | [x], _ => simp [noteM, List.isPrefixOf]
  | x :: y :: r, _ =>
    have e1 : (([40, 42] : List UInt8).isPrefixOf (x :: y :: r) = true) = (x = 40 ∧ y = 42) := by
      simp only [List.isPrefixOf, Bool.and_true, Bool.and_eq_true, beq_iff_eq]
      exact propext ⟨fun q => ⟨q.1.symm, q.2.symm⟩, fun q => ⟨q.1.symm, q.2.symm⟩⟩
    have e2 : (([42, 41] : List UInt8).isPrefixOf (x :: y :: r) = true) = (x = 42 ∧ y = 41) := by
      simp only [List.isPrefixOf, Bool.and_true, Bool.and_eq_true, beq_iff_eq]
      exact propext ⟨fun q => ⟨q.1.symm, q.2.symm⟩, fun q => ⟨q.1.symm, q.2.symm⟩⟩
    rw [noteM]
    simp only [e1, e2, List.drop_succ_cons, List.drop_zero]

theorem pre2 {a b : UInt8} {r : List UInt8} (h : ([a, b] : List UInt8).isPrefixOf r = true) : 2 ≤ r.length := by
  rw [List.isPrefixOf_iff_prefix] at h
  simpa using h.length_le

theorem pre2_nil {a b : UInt8} : ([a, b] : List UInt8).isPrefixOf [] = false := rfl

/-- a scanner's block -/
noncomputable def scB (s : List UInt8) (at' e : Int) : Blk := .ofL [.str s, .int .i64 at', .int .i64 e] 0 false

theorem note_ctr (s : List UInt8) (a0 : Nat) (e0 : Int) (b : Pa) (h : Heap) (hb : h.get b = scB s a0 e0) (h0 : a0 ≤ s.length) (hs : s.length ≤ 100000) (hob : Old h b) :
    Ctr Tryd.prog 25 [.ptr b 0] h fun x h' => x = .tuple [] ∧ Mod (fun x => x = b) h h' ∧ (match noteM (s.drop a0) 0 with
      | some n => h'.get b = scB s ((a0 + n : Nat) : Int) e0 ∧ a0 + n ≤ s.length
      | none => h'.get b = scB s (s.length : Int) 253) := by
  refine c25_ctr rfl (wpK_of ?_)
  unfold c25
  unfold scB at hb ⊢
  simp +contextual only [hb, ↓wA, wB, wZ, repeatV, RX.evs, spl, over, ones, Ex.ends, evR, oneOf, top, ↓reduceIte, Nat.reduceEqDiff, Nat.reduceLeDiff, Nat.reduceAdd, Nat.reduceSub, Nat.reduceMul, reduceCtorEq, Int.reduceEq, Int.reduceLT, Int.reduceLE, Int.reduceNeg, Int.reduceAdd, Int.reduceSub]
  refine loopK_intro (fun r h' => ∃ (a : Nat) (d : Int), a0 ≤ a ∧ a ≤ s.length ∧ r 0 = .ptr b 0 ∧ r 2 = .int .i64 d ∧ h'.get b = .ofL [.str s, .int .i64 a, .int .i64 e0] 0 false ∧ Mod (fun x => x = b) h h' ∧ -(a : Int) ≤ d ∧ d ≤ a ∧
      noteM (s.drop a0) 0 = (noteM (s.drop a) d).map (· + (a - a0))) (fun r h' => s.length - ((ld1B (h'.get b) 1).getD .bad).toN) ?_ ?_
  · refine ⟨a0, 0, Nat.le_refl _, h0, ?_⟩
    simp only [↓wA, wB, wZ, repeatV, RX.evs, spl, over, ones, Ex.ends, evR, oneOf, top, ↓reduceIte, Nat.reduceEqDiff, Nat.reduceLeDiff, Nat.reduceAdd, Nat.reduceSub, Nat.reduceMul, reduceCtorEq, Int.reduceEq, Int.reduceLT, Int.reduceLE, Int.reduceNeg, Int.reduceAdd, Int.reduceSub]
    refine ⟨hb, Mod.refl _ _, by omega, by omega, ?_⟩
    rw [Nat.sub_self]
    cases noteM (s.drop a0) 0 <;> rfl
  · rintro r h' ⟨a, d, k0, k1, r0, r2, hg, hm, d0, d1, hok⟩
    unfold c25l1
    by_cases hend : (s.length : Int) ≤ (a : Int)
    · have ha : a = s.length := by omega
      have hn : noteM (s.drop a) d = none := by
        rw [ha, List.drop_length]
        rfl
      rw [hn] at hok
      simp +contextual only [r0, r2, hg, hend, ↓wA, wB, wZ, repeatV, RX.evs, spl, over, ones, Ex.ends, evR, oneOf, top, ↓reduceIte, Nat.reduceEqDiff, Nat.reduceLeDiff, Nat.reduceAdd, Nat.reduceSub, Nat.reduceMul, reduceCtorEq, Int.reduceEq, Int.reduceLT, Int.reduceLE, Int.reduceNeg, Int.reduceAdd, Int.reduceSub]
      rw [hok]
      refine ⟨hm.set (fun _ => rfl) _, ?_⟩
      simp only [ha, Option.map_none, get_set, if_true]
    · have hne : s.drop a ≠ [] := by
        intro q
        rw [List.drop_eq_nil_iff] at q
        omega
      have hpure : ∀ p, CallsV Tryd.prog 24 [.ptr b 0, .str p] h' (.bool (p.isPrefixOf (s.drop a))) h' := fun p => by
        have := has_pure s p (a : Int) [.int .i64 e0] b 0 false h' hg (by omega) (by omega)
        simpa using this
      have hstep := noteM_step (s.drop a) d hne
      simp +contextual only [r0, r2, hg, hend, ↓wA, wB, wZ, repeatV, RX.evs, spl, over, ones, Ex.ends, evR, oneOf, top, ↓reduceIte, Nat.reduceEqDiff, Nat.reduceLeDiff, Nat.reduceAdd, Nat.reduceSub, Nat.reduceMul, reduceCtorEq, Int.reduceEq, Int.reduceLT, Int.reduceLE, Int.reduceNeg, Int.reduceAdd, Int.reduceSub]
      refine callK_pure (hpure _) ?_
      cases hp1 : ([40, 42] : List UInt8).isPrefixOf (s.drop a) with
      | true =>
        have h2 := pre2 hp1
        rw [List.length_drop] at h2
        rw [hp1, if_pos rfl] at hstep
        have w1 : IntKind.i64.wrap (d + 1) = d + 1 := wrap_i64 (by omega) (by omega)
        have w2 : IntKind.i64.wrap ((a : Int) + 2) = ((a + 2 : Nat) : Int) := by rw [wrap_i64 (by omega) (by omega)]; rfl
        simp +contextual only [r0, r2, hg, w1, w2, ↓wA, wB, wZ, repeatV, RX.evs, spl, over, ones, Ex.ends, evR, oneOf, top, ↓reduceIte, Nat.reduceEqDiff, Nat.reduceLeDiff, Nat.reduceAdd, Nat.reduceSub, Nat.reduceMul, reduceCtorEq, Int.reduceEq, Int.reduceLT, Int.reduceLE, Int.reduceNeg, Int.reduceAdd, Int.reduceSub]
        refine ⟨⟨a + 2, d + 1, by omega, by omega, rfl, rfl, hm.set (fun _ => rfl) _, by omega, by omega, ?_⟩, by omega⟩
        rw [hok, hstep, List.drop_drop, Option.map_map]
        congr 1
        funext q
        simp only [Function.comp]
        omega
      | false =>
        rw [hp1, if_neg (by decide)] at hstep
        simp +contextual only [r0, r2, hg, ↓wA, wB, wZ, repeatV, RX.evs, spl, over, ones, Ex.ends, evR, oneOf, top, ↓reduceIte, Nat.reduceEqDiff, Nat.reduceLeDiff, Nat.reduceAdd, Nat.reduceSub, Nat.reduceMul, reduceCtorEq, Int.reduceEq, Int.reduceLT, Int.reduceLE, Int.reduceNeg, Int.reduceAdd, Int.reduceSub]
        refine callK_pure (hpure _) ?_
        cases hp2 : ([42, 41] : List UInt8).isPrefixOf (s.drop a) with
        | true =>
          have h2 := pre2 hp2
          rw [List.length_drop] at h2
          rw [hp2, if_pos rfl] at hstep
          have w1 : IntKind.i64.wrap (d - 1) = d - 1 := wrap_i64 (by omega) (by omega)
          have w2 : IntKind.i64.wrap ((a : Int) + 2) = ((a + 2 : Nat) : Int) := by rw [wrap_i64 (by omega) (by omega)]; rfl
          by_cases hd : d - 1 = 0
          · rw [if_pos hd] at hstep
            obtain rfl : d = 1 := by omega
            have w0 : IntKind.i64.wrap 0 = 0 := rfl
            simp +contextual only [r0, r2, hg, w0, w2, ↓wA, wB, wZ, repeatV, RX.evs, spl, over, ones, Ex.ends, evR, oneOf, top, ↓reduceIte, Nat.reduceEqDiff, Nat.reduceLeDiff, Nat.reduceAdd, Nat.reduceSub, Nat.reduceMul, reduceCtorEq, Int.reduceEq, Int.reduceLT, Int.reduceLE, Int.reduceNeg, Int.reduceAdd, Int.reduceSub]
            rw [hok, hstep]
            refine ⟨hm.set (fun _ => rfl) _, ?_⟩
            simp only [Option.map_some, get_set, if_true]
            refine ⟨?_, by omega⟩
            rw [show a0 + (2 + (a - a0)) = a + 2 from by omega]
          · rw [if_neg hd] at hstep
            simp +contextual only [r0, r2, hg, w1, w2, hd, ↓wA, wB, wZ, repeatV, RX.evs, spl, over, ones, Ex.ends, evR, oneOf, top, ↓reduceIte, Nat.reduceEqDiff, Nat.reduceLeDiff, Nat.reduceAdd, Nat.reduceSub, Nat.reduceMul, reduceCtorEq, Int.reduceEq, Int.reduceLT, Int.reduceLE, Int.reduceNeg, Int.reduceAdd, Int.reduceSub]
            refine ⟨⟨a + 2, d - 1, by omega, by omega, rfl, rfl, hm.set (fun _ => rfl) _, by omega, by omega, ?_⟩, by omega⟩
            rw [hok, hstep, List.drop_drop, Option.map_map]
            congr 1
            funext q
            simp only [Function.comp]
            omega
        | false =>
          rw [hp2, if_neg (by decide)] at hstep
          have w2 : IntKind.i64.wrap ((a : Int) + 1) = ((a + 1 : Nat) : Int) := by rw [wrap_i64 (by omega) (by omega)]; rfl
          simp +contextual only [r0, r2, hg, w2, ↓wA, wB, wZ, repeatV, RX.evs, spl, over, ones, Ex.ends, evR, oneOf, top, ↓reduceIte, Nat.reduceEqDiff, Nat.reduceLeDiff, Nat.reduceAdd, Nat.reduceSub, Nat.reduceMul, reduceCtorEq, Int.reduceEq, Int.reduceLT, Int.reduceLE, Int.reduceNeg, Int.reduceAdd, Int.reduceSub]
          refine ⟨⟨a + 1, d, by omega, by omega, rfl, rfl, hm.set (fun _ => rfl) _, by omega, by omega, ?_⟩, by omega⟩
          rw [hok, hstep, List.drop_drop, Option.map_map]
          congr 1
          funext q
          simp only [Function.comp]
          omega
end Go.Proofs.YthcgccnbhdociaaDoor

namespace Go.Proofs.YthcgccnbhdociaaDoor
open Go Am
set_option linter.unusedSectionVars false
set_option linter.unusedSimpArgs false
set_option linter.unusedVariables false

/-- a reader's block -/
noncomputable def rdB (s : List UInt8) (at' fr e : Int) (out : V) : Blk := .ofL [.str s, .int .i64 at', .int .i64 fr, .int .i64 e, out] 0 false

theorem refnote_ctr (s : List UInt8) (a0 : Nat) (fr : Int) (e0 : Int) (out : V) (b : Pa) (h : Heap) (hb : h.get b = rdB s a0 fr e0 out) (h0 : a0 ≤ s.length) (hs : s.length ≤ 100000) (hob : Old h b) :
    Ctr Tryd.prog 52 [.ptr b 0] h fun x h' => x = .tuple [] ∧ Mod (fun x => x = b) h h' ∧ (match noteM (s.drop a0) 0 with
      | some n => h'.get b = rdB s ((a0 + n : Nat) : Int) fr e0 out ∧ a0 + n ≤ s.length
      | none => h'.get b = rdB s (s.length : Int) fr 253 out) := by
  refine c52_ctr rfl (wpK_of ?_)
  unfold c52
  unfold rdB at hb ⊢
  simp +contextual only [hb, ↓wA, wB, wZ, repeatV, RX.evs, spl, over, ones, Ex.ends, evR, oneOf, top, ↓reduceIte, Nat.reduceEqDiff, Nat.reduceLeDiff, Nat.reduceAdd, Nat.reduceSub, Nat.reduceMul, reduceCtorEq, Int.reduceEq, Int.reduceLT, Int.reduceLE, Int.reduceNeg, Int.reduceAdd, Int.reduceSub]
  refine loopK_intro (fun r h' => ∃ (a : Nat) (d : Int), a0 ≤ a ∧ a ≤ s.length ∧ r 0 = .ptr b 0 ∧ r 2 = .int .i64 d ∧ h'.get b = .ofL [.str s, .int .i64 a, .int .i64 fr, .int .i64 e0, out] 0 false ∧ Mod (fun x => x = b) h h' ∧ -(a : Int) ≤ d ∧ d ≤ a ∧
      noteM (s.drop a0) 0 = (noteM (s.drop a) d).map (· + (a - a0))) (fun r h' => s.length - ((ld1B (h'.get b) 1).getD .bad).toN) ?_ ?_
  · refine ⟨a0, 0, Nat.le_refl _, h0, ?_⟩
    simp only [↓wA, wB, wZ, repeatV, RX.evs, spl, over, ones, Ex.ends, evR, oneOf, top, ↓reduceIte, Nat.reduceEqDiff, Nat.reduceLeDiff, Nat.reduceAdd, Nat.reduceSub, Nat.reduceMul, reduceCtorEq, Int.reduceEq, Int.reduceLT, Int.reduceLE, Int.reduceNeg, Int.reduceAdd, Int.reduceSub]
    refine ⟨hb, Mod.refl _ _, by omega, by omega, ?_⟩
    rw [Nat.sub_self]
    cases noteM (s.drop a0) 0 <;> rfl
  · rintro r h' ⟨a, d, k0, k1, r0, r2, hg, hm, d0, d1, hok⟩
    unfold c52l1
    by_cases hend : ¬ ((a : Int) < (s.length : Int))
    · have ha : a = s.length := by omega
      have hn : noteM (s.drop a) d = none := by
        rw [ha, List.drop_length]
        rfl
      rw [hn] at hok
      simp +contextual only [r0, r2, hg, hend, ↓wA, wB, wZ, repeatV, RX.evs, spl, over, ones, Ex.ends, evR, oneOf, top, ↓reduceIte, Nat.reduceEqDiff, Nat.reduceLeDiff, Nat.reduceAdd, Nat.reduceSub, Nat.reduceMul, reduceCtorEq, Int.reduceEq, Int.reduceLT, Int.reduceLE, Int.reduceNeg, Int.reduceAdd, Int.reduceSub]
      rw [hok]
      refine ⟨hm.set (fun _ => rfl) _, ?_⟩
      simp only [ha, Option.map_none, get_set, if_true]
    · replace hend : ((a : Int) < (s.length : Int)) := by omega
      have hne : s.drop a ≠ [] := by
        intro q
        rw [List.drop_eq_nil_iff] at q
        omega
      have hpure : ∀ p : List UInt8, p.length ≤ 100000 → CallsV Tryd.prog 51 [.ptr b 0, .str p] h' (.bool (p.isPrefixOf (s.drop a))) h' := fun p hp => by
        have := starts_pure s p (a : Int) [.int .i64 fr, .int .i64 e0, out] b 0 false h' hg (by omega) (by omega) hs hp
        simpa using this
      have hstep := noteM_step (s.drop a) d hne
      simp +contextual only [r0, r2, hg, hend, ↓wA, wB, wZ, repeatV, RX.evs, spl, over, ones, Ex.ends, evR, oneOf, top, ↓reduceIte, Nat.reduceEqDiff, Nat.reduceLeDiff, Nat.reduceAdd, Nat.reduceSub, Nat.reduceMul, reduceCtorEq, Int.reduceEq, Int.reduceLT, Int.reduceLE, Int.reduceNeg, Int.reduceAdd, Int.reduceSub]
      refine callK_pure (hpure _ (by decide)) ?_
      cases hp1 : ([40, 42] : List UInt8).isPrefixOf (s.drop a) with
      | true =>
        have h2 := pre2 hp1
        rw [List.length_drop] at h2
        rw [hp1, if_pos rfl] at hstep
        have w1 : IntKind.i64.wrap (d + 1) = d + 1 := wrap_i64 (by omega) (by omega)
        have w2 : IntKind.i64.wrap ((a : Int) + 2) = ((a + 2 : Nat) : Int) := by rw [wrap_i64 (by omega) (by omega)]; rfl
        simp +contextual only [r0, r2, hg, w1, w2, ↓wA, wB, wZ, repeatV, RX.evs, spl, over, ones, Ex.ends, evR, oneOf, top, ↓reduceIte, Nat.reduceEqDiff, Nat.reduceLeDiff, Nat.reduceAdd, Nat.reduceSub, Nat.reduceMul, reduceCtorEq, Int.reduceEq, Int.reduceLT, Int.reduceLE, Int.reduceNeg, Int.reduceAdd, Int.reduceSub]
        refine ⟨⟨a + 2, d + 1, by omega, by omega, rfl, rfl, hm.set (fun _ => rfl) _, by omega, by omega, ?_⟩, by omega⟩
        rw [hok, hstep, List.drop_drop, Option.map_map]
        congr 1
        funext q
        simp only [Function.comp]
        omega
      | false =>
        rw [hp1, if_neg (by decide)] at hstep
        simp +contextual only [r0, r2, hg, ↓wA, wB, wZ, repeatV, RX.evs, spl, over, ones, Ex.ends, evR, oneOf, top, ↓reduceIte, Nat.reduceEqDiff, Nat.reduceLeDiff, Nat.reduceAdd, Nat.reduceSub, Nat.reduceMul, reduceCtorEq, Int.reduceEq, Int.reduceLT, Int.reduceLE, Int.reduceNeg, Int.reduceAdd, Int.reduceSub]
        refine callK_pure (hpure _ (by decide)) ?_
        cases hp2 : ([42, 41] : List UInt8).isPrefixOf (s.drop a) with
        | true =>
          have h2 := pre2 hp2
          rw [List.length_drop] at h2
          rw [hp2, if_pos rfl] at hstep
          have w1 : IntKind.i64.wrap (d - 1) = d - 1 := wrap_i64 (by omega) (by omega)
          have w2 : IntKind.i64.wrap ((a : Int) + 2) = ((a + 2 : Nat) : Int) := by rw [wrap_i64 (by omega) (by omega)]; rfl
          by_cases hd : d - 1 = 0
          · rw [if_pos hd] at hstep
            obtain rfl : d = 1 := by omega
            have w0 : IntKind.i64.wrap 0 = 0 := rfl
            simp +contextual only [r0, r2, hg, w0, w2, ↓wA, wB, wZ, repeatV, RX.evs, spl, over, ones, Ex.ends, evR, oneOf, top, ↓reduceIte, Nat.reduceEqDiff, Nat.reduceLeDiff, Nat.reduceAdd, Nat.reduceSub, Nat.reduceMul, reduceCtorEq, Int.reduceEq, Int.reduceLT, Int.reduceLE, Int.reduceNeg, Int.reduceAdd, Int.reduceSub]
            rw [hok, hstep]
            refine ⟨hm.set (fun _ => rfl) _, ?_⟩
            simp only [Option.map_some, get_set, if_true]
            refine ⟨?_, by omega⟩
            rw [show a0 + (2 + (a - a0)) = a + 2 from by omega]
          · rw [if_neg hd] at hstep
            simp +contextual only [r0, r2, hg, w1, w2, hd, ↓wA, wB, wZ, repeatV, RX.evs, spl, over, ones, Ex.ends, evR, oneOf, top, ↓reduceIte, Nat.reduceEqDiff, Nat.reduceLeDiff, Nat.reduceAdd, Nat.reduceSub, Nat.reduceMul, reduceCtorEq, Int.reduceEq, Int.reduceLT, Int.reduceLE, Int.reduceNeg, Int.reduceAdd, Int.reduceSub]
            refine ⟨⟨a + 2, d - 1, by omega, by omega, rfl, rfl, hm.set (fun _ => rfl) _, by omega, by omega, ?_⟩, by omega⟩
            rw [hok, hstep, List.drop_drop, Option.map_map]
            congr 1
            funext q
            simp only [Function.comp]
            omega
        | false =>
          rw [hp2, if_neg (by decide)] at hstep
          have w2 : IntKind.i64.wrap ((a : Int) + 1) = ((a + 1 : Nat) : Int) := by rw [wrap_i64 (by omega) (by omega)]; rfl
          simp +contextual only [r0, r2, hg, w2, ↓wA, wB, wZ, repeatV, RX.evs, spl, over, ones, Ex.ends, evR, oneOf, top, ↓reduceIte, Nat.reduceEqDiff, Nat.reduceLeDiff, Nat.reduceAdd, Nat.reduceSub, Nat.reduceMul, reduceCtorEq, Int.reduceEq, Int.reduceLT, Int.reduceLE, Int.reduceNeg, Int.reduceAdd, Int.reduceSub]
          refine ⟨⟨a + 1, d, by omega, by omega, rfl, rfl, hm.set (fun _ => rfl) _, by omega, by omega, ?_⟩, by omega⟩
          rw [hok, hstep, List.drop_drop, Option.map_map]
          congr 1
          funext q
          simp only [Function.comp]
          omega
end Go.Proofs.YthcgccnbhdociaaDoor

namespace Go.Proofs.YthcgccnbhdociaaDoor
open Go Am
set_option linter.unusedSectionVars false
set_option linter.unusedSimpArgs false
set_option linter.unusedVariables false

theorem drop_cons {s : List UInt8} {a : Nat} (h : a < s.length) : s.drop a = s[a] :: s.drop (a + 1) := List.drop_eq_getElem_cons h
theorem take_while_len (p : UInt8 → Bool) : ∀ l : List UInt8, (l.takeWhile p).length ≤ l.length
  | [] => by simp
  | x :: l => by
    simp only [List.takeWhile_cons]
    split
    · simpa using take_while_len p l
    · simp

theorem run_ctr (s : List UInt8) (a0 : Nat) (e0 : Int) (b : Pa) (g : FuncId) (p : Int → Bool) (h : Heap) (hb : h.get b = scB s a0 e0) (h0 : a0 ≤ s.length) (hs : s.length ≤ 100000)
    (hp : ∀ c h, CallsV Tryd.prog g [.int .u8 c] h (.bool (p c)) h) :
    Ctr Tryd.prog 75 [.ptr b 0, .func g []] h fun x h' => x = .str ((s.drop a0).takeWhile fun c => p c.toNat) ∧ Mod (fun x => x = b) h h' ∧ h'.get b = scB s ((a0 + ((s.drop a0).takeWhile fun c => p c.toNat).length : Nat) : Int) e0 := by
  refine c75_ctr rfl (wpK_of ?_)
  unfold c75
  unfold scB at hb ⊢
  simp +contextual only [hb, ↓wA, wB, wZ, repeatV, RX.evs, spl, over, ones, Ex.ends, evR, oneOf, top, ↓reduceIte, Nat.reduceEqDiff, Nat.reduceLeDiff, Nat.reduceAdd, Nat.reduceSub, Nat.reduceMul, reduceCtorEq, Int.reduceEq, Int.reduceLT, Int.reduceLE, Int.reduceNeg, Int.reduceAdd, Int.reduceSub]
  refine loopK_intro (fun r h' => ∃ (a : Nat), a0 ≤ a ∧ a ≤ s.length ∧ r 0 = .ptr b 0 ∧ r 1 = .func g [] ∧ r 5 = .int .i64 a0 ∧ h'.get b = .ofL [.str s, .int .i64 a, .int .i64 e0] 0 false ∧ Mod (fun x => x = b) h h' ∧
      ((s.drop a0).takeWhile fun c => p c.toNat) = (s.drop a0).take (a - a0) ++ ((s.drop a).takeWhile fun c => p c.toNat)) (fun r h' => s.length - ((ld1B (h'.get b) 1).getD .bad).toN) ?_ ?_
  · refine ⟨a0, Nat.le_refl _, h0, ?_⟩
    simp only [↓wA, wB, wZ, repeatV, RX.evs, spl, over, ones, Ex.ends, evR, oneOf, top, ↓reduceIte, Nat.reduceEqDiff, Nat.reduceLeDiff, Nat.reduceAdd, Nat.reduceSub, Nat.reduceMul, reduceCtorEq, Int.reduceEq, Int.reduceLT, Int.reduceLE, Int.reduceNeg, Int.reduceAdd, Int.reduceSub]
    refine ⟨hb, Mod.refl _ _, ?_⟩
    rw [Nat.sub_self]
    rfl
  · rintro r h' ⟨a, k0, k1, r0, r1, r5, hg, hm, hok⟩
    unfold c75l1
    have fin : ((s.drop a).takeWhile fun c => p c.toNat) = [] → V.str (((s.drop a0).take (a - a0))) = V.str ((s.drop a0).takeWhile fun c => p c.toNat) ∧ Mod (fun x => x = b) h h' ∧ Blk.ofL [V.str s, V.int .i64 a, V.int .i64 e0] 0 false = Blk.ofL [V.str s, V.int .i64 ((a0 + ((s.drop a0).takeWhile fun c => p c.toNat).length : Nat) : Int), V.int .i64 e0] 0 false := by
      intro q
      rw [q, List.append_nil] at hok
      rw [hok, List.length_take, List.length_drop]
      refine ⟨rfl, hm, ?_⟩
      rw [show a0 + min (a - a0) (s.length - a0) = a from by omega]
    have f0 : (0 ≤ (a0 : Int)) = True := eq_true (by omega)
    have f1 : ((a0 : Int) ≤ (a : Int)) = True := eq_true (by omega)
    have f2 : ((a : Int) ≤ (s.length : Int)) = True := eq_true (by omega)
    have f3 : (0 ≤ (a : Int)) = True := eq_true (by omega)
    by_cases hend : (a : Int) < (s.length : Int)
    · have hlt : a < s.length := by omega
      rw [drop_cons hlt, List.takeWhile_cons] at hok fin
      simp +contextual only [r0, r1, r5, hg, hend, f0, f1, f2, f3, List.getElem?_eq_getElem hlt, Int.toNat_natCast, ↓wA, wB, wZ, repeatV, RX.evs, spl, over, ones, Ex.ends, evR, oneOf, top, ↓reduceIte, Nat.reduceEqDiff, Nat.reduceLeDiff, Nat.reduceAdd, Nat.reduceSub, Nat.reduceMul, reduceCtorEq, Int.reduceEq, Int.reduceLT, Int.reduceLE, Int.reduceNeg, Int.reduceAdd, Int.reduceSub]
      refine callK_pure (hp _ _) ?_
      cases hpc : p ((s[a]).toNat : Int) with
      | true =>
        rw [hpc] at hok
        have w2 : IntKind.i64.wrap ((a : Int) + 1) = ((a + 1 : Nat) : Int) := by rw [wrap_i64 (by omega) (by omega)]; rfl
        simp +contextual only [hpc, r0, r1, r5, hg, hend, f0, f1, f2, f3, w2, List.getElem?_eq_getElem hlt, Int.toNat_natCast, ↓wA, wB, wZ, repeatV, RX.evs, spl, over, ones, Ex.ends, evR, oneOf, top, ↓reduceIte, Nat.reduceEqDiff, Nat.reduceLeDiff, Nat.reduceAdd, Nat.reduceSub, Nat.reduceMul, reduceCtorEq, Int.reduceEq, Int.reduceLT, Int.reduceLE, Int.reduceNeg, Int.reduceAdd, Int.reduceSub]
        refine ⟨⟨a + 1, by omega, by omega, rfl, hm.set (fun _ => rfl) _, ?_⟩, by omega⟩
        rw [hok, if_pos rfl]
        have hlt2 : a - a0 < (s.drop a0).length := by rw [List.length_drop]; omega
        rw [show a + 1 - a0 = a - a0 + 1 from by omega, ← List.take_append_getElem hlt2, List.append_assoc]
        congr 1
        rw [List.getElem_drop]
        simp only [show a0 + (a - a0) = a from by omega]
        rfl
      | false =>
        rw [hpc] at fin
        simp +contextual only [hpc, r0, r1, r5, hg, hend, f0, f1, f2, f3, List.getElem?_eq_getElem hlt, Int.toNat_natCast, ↓wA, wB, wZ, repeatV, RX.evs, spl, over, ones, Ex.ends, evR, oneOf, top, ↓reduceIte, Nat.reduceEqDiff, Nat.reduceLeDiff, Nat.reduceAdd, Nat.reduceSub, Nat.reduceMul, reduceCtorEq, Int.reduceEq, Int.reduceLT, Int.reduceLE, Int.reduceNeg, Int.reduceAdd, Int.reduceSub]
        exact fin rfl
    · have ha : a = s.length := by omega
      simp +contextual only [r0, r1, r5, hg, hend, f0, f1, f2, f3, Int.toNat_natCast, ↓wA, wB, wZ, repeatV, RX.evs, spl, over, ones, Ex.ends, evR, oneOf, top, ↓reduceIte, Nat.reduceEqDiff, Nat.reduceLeDiff, Nat.reduceAdd, Nat.reduceSub, Nat.reduceMul, reduceCtorEq, Int.reduceEq, Int.reduceLT, Int.reduceLE, Int.reduceNeg, Int.reduceAdd, Int.reduceSub]
      refine fin ?_
      rw [ha, List.drop_length]
      rfl
end Go.Proofs.YthcgccnbhdociaaDoor

namespace Go.Proofs.YthcgccnbhdociaaDoor
open Go Am
set_option linter.unusedSectionVars false
set_option linter.unusedSimpArgs false
set_option linter.unusedVariables false

theorem findNext72 : Extern.findNext Tryd.f72 = none := by kernel_rfl
theorem find72 : (Extern.find Tryd.f72) = some Extern.BytealgIndexByte.indexByte := by kernel_rfl
theorem index72 (s : List UInt8) (c : Int) (h : Heap) : CallsV Tryd.prog 72 [.str s, .int .u8 c] h (.int .i64 (Lib.indexByte s c.toNat.toUInt8)) h :=
  indexByteString_calls Tryd.func72 (by kernel_rfl) (by kernel_rfl) findNext72 find72 s c h
theorem index42 (s : List UInt8) (c : Int) (h : Heap) : CallsV Tryd.prog 42 [.str s, .int .u8 c] h (.int .i64 (Lib.indexByte s c.toNat.toUInt8)) h := by
  refine pure_calls (c42_ctr rfl (wpK_of ?_))
  unfold c42
  simp +contextual only [↓wA, wB, wZ, repeatV, RX.evs, spl, over, ones, Ex.ends, evR, oneOf, top, ↓reduceIte, Nat.reduceEqDiff, Nat.reduceLeDiff, Nat.reduceAdd, Nat.reduceSub, Nat.reduceMul, reduceCtorEq, Int.reduceEq, Int.reduceLT, Int.reduceLE, Int.reduceNeg, Int.reduceAdd, Int.reduceSub]
  refine callK_pure (index72 _ _ _) ?_
  simp +contextual only [↓wA, wB, wZ, repeatV, RX.evs, spl, over, ones, Ex.ends, evR, oneOf, top, ↓reduceIte, Nat.reduceEqDiff, Nat.reduceLeDiff, Nat.reduceAdd, Nat.reduceSub, Nat.reduceMul, reduceCtorEq, Int.reduceEq, Int.reduceLT, Int.reduceLE, Int.reduceNeg, Int.reduceAdd, Int.reduceSub]
theorem index23 (s : List UInt8) (c : Int) (h : Heap) : CallsV Tryd.prog 23 [.str s, .int .u8 c] h (.int .i64 (Lib.indexByte s c.toNat.toUInt8)) h := by
  refine pure_calls (c23_ctr rfl (wpK_of ?_))
  unfold c23
  simp +contextual only [↓wA, wB, wZ, repeatV, RX.evs, spl, over, ones, Ex.ends, evR, oneOf, top, ↓reduceIte, Nat.reduceEqDiff, Nat.reduceLeDiff, Nat.reduceAdd, Nat.reduceSub, Nat.reduceMul, reduceCtorEq, Int.reduceEq, Int.reduceLT, Int.reduceLE, Int.reduceNeg, Int.reduceAdd, Int.reduceSub]
  refine callK_pure (index42 _ _ _) ?_
  simp +contextual only [↓wA, wB, wZ, repeatV, RX.evs, spl, over, ones, Ex.ends, evR, oneOf, top, ↓reduceIte, Nat.reduceEqDiff, Nat.reduceLeDiff, Nat.reduceAdd, Nat.reduceSub, Nat.reduceMul, reduceCtorEq, Int.reduceEq, Int.reduceLT, Int.reduceLE, Int.reduceNeg, Int.reduceAdd, Int.reduceSub]
end Go.Proofs.YthcgccnbhdociaaDoor
