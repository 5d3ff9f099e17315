/- The chapter's functions, walked by the abstract machine: plain lemmas, no condition. -/
import Derived.Test.YthcgccnbhdociaaDoorM4
import Derived.WalkSmall
import Derived.Lib.LaidTab
import Derived.Shelf.Unicode.DecodeAny
import Derived.Shelf.Strconv.Itoa3
import Derived.Test.YthcgccnbhdociaaDoorRows

namespace Go.Proofs.YthcgccnbhdociaaDoor
open Go Am Go.RowKit

theorem block_lt {w : World} {p : Addr} {v : Value} (h : w.cell? p = some v) : p.block < w.heap.size := by
  unfold World.cell? at h
  by_cases q : p.block < w.heap.size
  · exact q
  · rw [Array.getElem?_eq_none (by omega)] at h
    cases h
/-- a variable that holds an error -/
def ErrAt (w : World) (g : Nat) : Prop := ∃ ev, w.cell? ⟨g, 0, none⟩ = some ev ∧ (ev = .nilIface ∨ ∃ te pe, ev = .iface te pe)
theorem ErrAt.keep {w w' : World} {g : Nat} (h : ErrAt w g) (hb : Below w.heap.size w w') : ErrAt w' g := by
  obtain ⟨ev, h1, h2⟩ := h
  exact ⟨ev, by rw [hb.cell (block_lt h1)]; exact h1, h2⟩
/-- what the library's variables hold -/
structure LibOk (w : World) : Prop where
  utf8 : Lib.Utf8Tabs 0 1 w
  maxLen : ∃ m, w.cell? ⟨2, 0, none⟩ = some (.int .i64 m)
  errSyntax : ErrAt w 4
  errRange : ErrAt w 5
  pow10 : Lib.TabIs Tryd.prog w "internal/strconv.uint64pow10" .u64 Lib.pow10Tab
noncomputable instance lay : Lay where
  ok w := LibOk w
  keep := by
    intro w w' h hb
    refine ⟨?_, ?_, h.errSyntax.keep hb, h.errRange.keep hb, ?_⟩
    · obtain ⟨h1, h2⟩ := h.utf8
      refine ⟨fun c hc => ?_, fun i hi => ?_⟩
      · rw [hb.cell (block_lt (h1 c hc))]
        exact h1 c hc
      · obtain ⟨q1, q2⟩ := h2 i hi
        rw [hb.cell (block_lt q1), hb.cell (block_lt q2)]
        exact ⟨q1, q2⟩
    · obtain ⟨m, q⟩ := h.maxLen
      exact ⟨m, by rw [hb.cell (block_lt q)]; exact q⟩
    · have hg : Tryd.prog.globalNamed "internal/strconv.uint64pow10" = some 3 := by kernel_rfl
      have hl : 3 < w.heap.size := by
        have q := h.pow10
        unfold Lib.TabIs World.var? at q
        rw [hg] at q
        by_cases hlt : 3 < w.heap.size
        · exact hlt
        · simp only [Option.bind_some] at q
          rw [Array.getElem?_eq_none (by omega)] at q
          cases q
      exact var?_below hb hg hl h.pow10
end Go.Proofs.YthcgccnbhdociaaDoor

namespace Go.Proofs.YthcgccnbhdociaaDoor
open Go Am
theorem follows : Tryd.prog.follows .mixedOrders = true := by kernel_rfl
theorem names : (Tryd.prog.funcs.toList.all fun fn => !(fn.name == "runtime.NumGoroutine")) = true := by kernel_rfl
theorem namesOk : NamesOk Tryd.prog := by
  intro f fn h
  have := List.all_eq_true.1 names fn (List.mem_of_getElem? (i := f) (by simpa using h))
  simpa using this

set_option linter.unusedSectionVars false
/-- gimlet/lex.Lex -/
def c10l1 : RC :=
  RC.block 1 (RC.seq (RC.reg [⟨(some 24), .mv (.t 5), none, [5]⟩,
      ⟨(some 25), .nilck (.t 24), none, [24]⟩,
      ⟨(some 26), .fa 1 (.t 25), none, [25]⟩,
      ⟨(some 27), .ld1 (.t 26), none, [26]⟩,
      ⟨(some 7), .mv (.t 27), none, [27]⟩])
   (RC.seq (RC.block 2 (RC.seq (RC.reg [⟨(some 37), .mv (.t 7), none, [7]⟩,
        ⟨(some 38), .mv (.t 0), none, [0]⟩,
        ⟨(some 39), .len .str (.t 38), none, [38]⟩,
        ⟨(some 40), .bin (.int .geq) (.t 37) (.t 39), none, [37, 39]⟩,
        ⟨(some 36), .mv (.t 40), none, [40]⟩])
     (RC.cond (.t 36)
      (RC.exit 0)
      (RC.seq (RC.reg [⟨(some 42), .mv (.t 0), none, [0]⟩,
          ⟨(some 43), .mv (.t 7), none, [7]⟩,
          ⟨(some 44), .ixs (.t 42) (.t 43), none, [42, 43]⟩,
          ⟨(some 45), .call 23 [(.c (.str [9, 10, 13, 32])), (.t 44)], none, [44]⟩,
          ⟨(some 46), .bin (.int .geq) (.t 45) (.c (.int .i64 0)), none, [45]⟩,
          ⟨(some 41), .mv (.t 46), none, [46]⟩])
       (RC.cond (.t 41)
        (RC.reg [⟨(some 47), .mv (.t 5), none, [5]⟩,
           ⟨(some 48), .nilck (.t 47), none, [47]⟩,
           ⟨(some 49), .fa 1 (.t 48), none, [48]⟩,
           ⟨(some 50), .ld1 (.t 49), none, [49]⟩,
           ⟨(some 51), .bin (.int .add) (.t 50) (.c (.int .i64 1)), none, [50]⟩,
           ⟨(some 52), .nilck (.t 47), none, [47]⟩,
           ⟨(some 53), .fa 1 (.t 52), none, [52]⟩,
           ⟨none, .st 1 (.t 53) (.t 51), none, [53, 51]⟩])
        (RC.seq (RC.reg [⟨(some 55), .mv (.t 5), none, [5]⟩,
            ⟨(some 56), .call 24 [(.t 55), (.c (.str [40, 42]))], none, [55]⟩,
            ⟨(some 54), .mv (.t 56), none, [56]⟩])
         (RC.cond (.t 54)
          (RC.reg [⟨(some 57), .mv (.t 5), none, [5]⟩,
             ⟨(some 58), .call 25 [(.t 57)], none, [57]⟩])
          (RC.seq (RC.reg [⟨(some 28), .mv (.t 5), none, [5]⟩,
              ⟨(some 29), .call 26 [(.t 28)], none, [28]⟩,
              ⟨(some 8), .new [(.int .i64 0), (.int .i64 0), (.int .i64 0), (.str [])], none, []⟩,
              ⟨none, .st 4 (.t 8) (.t 29), none, [8, 29]⟩])
           (RC.seq (RC.reg [⟨(some 30), .mv (.t 7), none, [7]⟩,
              ⟨(some 31), .fa 2 (.t 8), none, [8]⟩,
              ⟨none, .st 1 (.t 31) (.t 30), none, [31, 30]⟩])
           (RC.reg [⟨(some 32), .mv (.t 6), none, [6]⟩,
             ⟨(some 33), .ldn 4 (.t 8), none, [8]⟩,
             ⟨(some 34), .bsl 1 4 [(.int .i64 0), (.int .i64 0), (.int .i64 0), (.str [])] [(0, 4, (.t 33))], none, [33]⟩,
             ⟨(some 35), .app 4 (.t 32) (.t 34), none, [32, 34]⟩,
             ⟨(some 6), .mv (.t 35), none, [35]⟩]))))))))))
   (RC.seq (RC.reg [⟨(some 59), .mv (.t 5), none, [5]⟩,
      ⟨(some 60), .nilck (.t 59), none, [59]⟩,
      ⟨(some 61), .fa 2 (.t 60), none, [60]⟩,
      ⟨(some 62), .ld1 (.t 61), none, [61]⟩,
      ⟨(some 63), .bin (.int .neq) (.t 62) (.c (.int .i64 0)), none, [62]⟩])
   (RC.cond (.t 63)
    (RC.seq (RC.draw [⟨(some 64), .mv (.t 5), none, [5]⟩,
        ⟨(some 65), .nilck (.t 64), none, [64]⟩,
        ⟨(some 66), .fa 2 (.t 65), none, [65]⟩,
        ⟨(some 67), .ld1 (.t 66), none, [66]⟩,
        ⟨(some 68), .mv (.t 7), none, [7]⟩,
        ⟨(some 69), .build [(.int .i64 0), (.int .i64 0)] [(0, 1, (.t 67)), (1, 1, (.t 68))], none, [67, 68]⟩,
        ⟨(some 2), .mv (.c .nilslice), none, []⟩,
        ⟨none, .st 2 (.t 3) (.t 69), none, [3, 69]⟩] [(3, [7])])
     (RC.ret))
    (RC.skip)))))
def c10 : RC :=
  RC.seq (RC.reg [⟨(some 2), .mv (.c .nilslice), none, []⟩,
     ⟨(some 3), .new [(.int .i64 0), (.int .i64 0)], none, []⟩])
  (RC.seq (RC.seq (RC.reg [⟨(some 9), .mv (.t 0), none, [0]⟩,
      ⟨(some 10), .len .str (.t 9), none, [9]⟩,
      ⟨(some 11), .bin (.int .gtr) (.t 10) (.c (.int .i64 65536)), none, [10]⟩])
   (RC.cond (.t 11)
    (RC.seq (RC.reg [⟨(some 12), .build [(.int .i64 0), (.int .i64 0)] [(0, 1, (.c (.int .i64 3)))], none, []⟩,
        ⟨(some 2), .mv (.c .nilslice), none, []⟩,
        ⟨none, .st 2 (.t 3) (.t 12), none, [3, 12]⟩])
     (RC.ret))
    (RC.skip)))
  (RC.seq (RC.seq (RC.reg [⟨(some 13), .mv (.t 0), none, [0]⟩,
      ⟨(some 14), .call 13 [(.t 13)], none, [13]⟩,
      ⟨(some 4), .mv (.t 14), none, [14]⟩])
   (RC.seq (RC.reg [⟨(some 15), .mv (.t 4), none, [4]⟩,
      ⟨(some 16), .mv (.t 0), none, [0]⟩,
      ⟨(some 17), .len .str (.t 16), none, [16]⟩,
      ⟨(some 18), .bin (.int .lss) (.t 15) (.t 17), none, [15, 17]⟩])
   (RC.cond (.t 18)
    (RC.seq (RC.reg [⟨(some 19), .mv (.t 4), none, [4]⟩,
        ⟨(some 20), .build [(.int .i64 0), (.int .i64 0)] [(0, 1, (.c (.int .i64 250))), (1, 1, (.t 19))], none, [19]⟩,
        ⟨(some 2), .mv (.c .nilslice), none, []⟩,
        ⟨none, .st 2 (.t 3) (.t 20), none, [3, 20]⟩])
     (RC.ret))
    (RC.skip))))
  (RC.seq (RC.reg [⟨(some 21), .mv (.t 0), none, [0]⟩,
     ⟨(some 22), .build [(.str []), (.int .i64 0), (.int .i64 0)] [(0, 1, (.t 21))], none, [21]⟩,
     ⟨(some 23), .box (.t 22), none, [22]⟩,
     ⟨(some 5), .mv (.t 23), none, [23]⟩])
  (RC.seq (RC.reg [⟨(some 6), .mv (.c .nilslice), none, []⟩])
  (RC.seq (RC.skip)
  (RC.seq (RC.block 0 (RC.loop c10l1))
  (RC.seq (RC.reg [⟨(some 70), .mv (.t 6), none, [6]⟩,
     ⟨(some 71), .build [(.int .i64 0), (.int .i64 0)] [], none, []⟩,
     ⟨(some 2), .mv (.t 70), none, [70]⟩,
     ⟨none, .st 2 (.t 3) (.t 71), none, [3, 71]⟩])
  (RC.ret))))))))
theorem c10_ok : resK Tryd.prog Tryd.f10.ntmps (Tryd.f10.body.getD .skip) = c10 := by kernel_rfl
theorem c10_res : resR Tryd.prog Tryd.f10.ntmps Tryd.f10.results.toList = [.t 2, .cn 3 2] := by kernel_rfl
theorem c10_ctr {args : List V} {h : Heap} {K : V → Heap → Prop} (hl : Nat.ble args.length 72 = true) (H : wpC Tryd.prog c10 (RF.ofL args) h fun e r h' => e.ends ∧ ∃ vs, evR r h' [.t 2, .cn 3 2] = some vs ∧ K (oneOf vs) h') : Ctr Tryd.prog 10 args h K :=
  ctr_of_wp follows namesOk Tryd.func10 (c := Tryd.f10.body.getD .skip) (by kernel_rfl) (by kernel_rfl) hl c10_ok c10_res H

/-- gimlet/lex.Right -/
def c13l1 : RC :=
  RC.seq (RC.reg [⟨(some 9), .nxt (.t 8), none, [8]⟩,
     ⟨(some 10), .ext (.t 9) 0, none, [9]⟩])
  (RC.seq (RC.cond (.t 10)
    (RC.skip)
    (RC.exit 0))
  (RC.block 1 (RC.seq (RC.reg [⟨(some 11), .ext (.t 9) 1, none, [9]⟩,
      ⟨(some 12), .ext (.t 9) 2, none, [9]⟩,
      ⟨(some 3), .mv (.t 11), none, [11]⟩,
      ⟨(some 4), .mv (.t 12), none, [12]⟩])
   (RC.seq (RC.reg [⟨(some 13), .mv (.t 4), none, [4]⟩,
      ⟨(some 14), .bin (.int .eql) (.t 13) (.c (.int .i32 65533)), none, [13]⟩])
   (RC.cond (.t 14)
    (RC.seq (RC.reg [⟨(some 16), .mv (.t 0), none, [0]⟩,
        ⟨(some 17), .mv (.t 3), none, [3]⟩,
        ⟨(some 18), .slstr (.t 16) (some (.t 17)) none none, none, [16, 17]⟩,
        ⟨(some 19), .call 34 [(.t 18)], none, [18]⟩,
        ⟨(some 15), .mv (.t 19), none, [19]⟩,
        ⟨(some 20), .ext (.t 15) 0, none, [15]⟩,
        ⟨(some 21), .ext (.t 15) 1, none, [15]⟩,
        ⟨(some 5), .mv (.t 20), none, [20]⟩,
        ⟨(some 6), .mv (.t 21), none, [21]⟩])
     (RC.seq (RC.reg [⟨(some 22), .mv (.t 6), none, [6]⟩,
        ⟨(some 23), .bin (.int .eql) (.t 22) (.c (.int .i64 1)), none, [22]⟩])
     (RC.cond (.t 23)
      (RC.seq (RC.reg [⟨(some 24), .mv (.t 3), none, [3]⟩,
          ⟨(some 2), .mv (.t 24), none, [24]⟩])
       (RC.ret))
      (RC.skip))))
    (RC.skip))))))
def c13 : RC :=
  RC.seq (RC.reg [⟨(some 2), .mv (.c (.int .i64 0)), none, []⟩])
  (RC.seq (RC.seq (RC.reg [⟨(some 7), .mv (.t 0), none, [0]⟩,
      ⟨(some 8), .rngs (.t 7), none, [7]⟩])
   (RC.block 0 (RC.loop c13l1)))
  (RC.seq (RC.reg [⟨(some 25), .mv (.t 0), none, [0]⟩,
     ⟨(some 26), .len .str (.t 25), none, [25]⟩,
     ⟨(some 2), .mv (.t 26), none, [26]⟩])
  (RC.ret)))
theorem c13_ok : resK Tryd.prog Tryd.f13.ntmps (Tryd.f13.body.getD .skip) = c13 := by kernel_rfl
theorem c13_res : resR Tryd.prog Tryd.f13.ntmps Tryd.f13.results.toList = [.t 2] := by kernel_rfl
theorem c13_ctr {args : List V} {h : Heap} {K : V → Heap → Prop} (hl : Nat.ble args.length 27 = true) (H : wpC Tryd.prog c13 (RF.ofL args) h fun e r h' => e.ends ∧ ∃ vs, evR r h' [.t 2] = some vs ∧ K (oneOf vs) h') : Ctr Tryd.prog 13 args h K :=
  ctr_of_wp follows namesOk Tryd.func13 (c := Tryd.f13.body.getD .skip) (by kernel_rfl) (by kernel_rfl) hl c13_ok c13_res H

/-- gimlet/lex.Write -/
def c18l1 : RC :=
  RC.seq (RC.reg [⟨(some 11), .bin (.int .lss) (.t 10) (.t 9), none, [10, 9]⟩])
  (RC.seq (RC.cond (.t 11)
    (RC.skip)
    (RC.exit 0))
  (RC.seq (RC.block 1 (RC.seq (RC.reg [⟨(some 12), .ia 4 (.t 8) (.t 10), none, [8, 10]⟩,
       ⟨(some 13), .ldn 4 (.t 12), none, [12]⟩,
       ⟨(some 6), .new [(.int .i64 0), (.int .i64 0), (.int .i64 0), (.str [])], none, []⟩,
       ⟨none, .st 4 (.t 6) (.t 13), none, [6, 13]⟩])
    (RC.seq (RC.seq (RC.reg [⟨(some 14), .ldn 4 (.t 6), none, [6]⟩,
        ⟨(some 15), .call 36 [(.t 14)], none, [14]⟩,
        ⟨(some 16), .un .not (.t 15), none, [15]⟩])
     (RC.cond (.t 16)
      (RC.seq (RC.reg [⟨(some 2), .mv (.c (.str [])), none, []⟩,
          ⟨(some 3), .mv (.c (.int .i64 2)), none, []⟩])
       (RC.ret))
      (RC.skip)))
    (RC.seq (RC.reg [⟨(some 17), .fa 3 (.t 6), none, [6]⟩,
       ⟨(some 18), .ld1 (.t 17), none, [17]⟩,
       ⟨(some 7), .mv (.t 18), none, [18]⟩])
    (RC.seq (RC.seq (RC.reg [⟨(some 19), .fa 0 (.t 6), none, [6]⟩,
        ⟨(some 20), .ld1 (.t 19), none, [19]⟩])
     (RC.block 2 (RC.seq (RC.reg [⟨(some 22), .bin (.int .eql) (.t 20) (.c (.int .i64 1)), none, [20]⟩,
         ⟨(some 21), .mv (.t 22), none, [22]⟩])
      (RC.cond (.t 21)
       (RC.reg [⟨(some 23), .fa 1 (.t 6), none, [6]⟩,
          ⟨(some 24), .ld1 (.t 23), none, [23]⟩,
          ⟨(some 25), .bin (.int .and) (.t 24) (.c (.int .i64 2147483647)), none, [24]⟩,
          ⟨(some 26), .call 37 [(.t 25)], none, [25]⟩,
          ⟨(some 7), .mv (.t 26), none, [26]⟩])
       (RC.seq (RC.reg [⟨(some 28), .bin (.int .eql) (.t 20) (.c (.int .i64 2)), none, [20]⟩,
           ⟨(some 27), .mv (.t 28), none, [28]⟩])
        (RC.cond (.t 27)
         (RC.reg [⟨(some 29), .mv (.t 7), none, [7]⟩,
            ⟨(some 30), .call 38 [(.t 29)], none, [29]⟩,
            ⟨(some 7), .mv (.t 30), none, [30]⟩])
         (RC.seq (RC.reg [⟨(some 32), .bin (.int .eql) (.t 20) (.c (.int .i64 5)), none, [20]⟩,
             ⟨(some 31), .mv (.t 32), none, [32]⟩])
          (RC.cond (.t 31)
           (RC.reg [⟨(some 33), .mv (.t 7), none, [7]⟩,
              ⟨(some 34), .bin (.str .add) (.c (.str [39])) (.t 33), none, [33]⟩,
              ⟨(some 7), .mv (.t 34), none, [34]⟩])
           (RC.skip)))))))))
    (RC.reg [⟨(some 35), .mv (.t 4), none, [4]⟩,
      ⟨(some 36), .mv (.t 7), none, [7]⟩,
      ⟨(some 37), .bsl 1 1 [(.str [])] [(0, 1, (.t 36))], none, [36]⟩,
      ⟨(some 38), .app 1 (.t 35) (.t 37), none, [35, 37]⟩,
      ⟨(some 4), .mv (.t 38), none, [38]⟩]))))))
  (RC.reg [⟨(some 39), .bin (.int .add) (.t 10) (.c (.int .i64 1)), none, [10]⟩,
    ⟨(some 10), .mv (.t 39), none, [39]⟩])))
def c18 : RC :=
  RC.seq (RC.reg [⟨(some 2), .mv (.c (.str [])), none, []⟩,
     ⟨(some 3), .mv (.c (.int .i64 0)), none, []⟩])
  (RC.seq (RC.reg [⟨(some 4), .mv (.c .nilslice), none, []⟩])
  (RC.seq (RC.seq (RC.reg [⟨(some 8), .mv (.t 0), none, [0]⟩,
      ⟨(some 9), .len .slice (.t 8), none, [8]⟩,
      ⟨(some 10), .mv (.c (.int .i64 0)), none, []⟩])
   (RC.block 0 (RC.loop c18l1)))
  (RC.seq (RC.reg [⟨(some 40), .mv (.t 4), none, [4]⟩,
     ⟨(some 41), .call 39 [(.t 40), (.c (.str [32]))], none, [40]⟩,
     ⟨(some 2), .mv (.t 41), none, [41]⟩,
     ⟨(some 3), .mv (.c (.int .i64 0)), none, []⟩])
  (RC.ret))))
theorem c18_ok : resK Tryd.prog Tryd.f18.ntmps (Tryd.f18.body.getD .skip) = c18 := by kernel_rfl
theorem c18_res : resR Tryd.prog Tryd.f18.ntmps Tryd.f18.results.toList = [.t 2, .t 3] := by kernel_rfl
theorem c18_ctr {args : List V} {h : Heap} {K : V → Heap → Prop} (hl : Nat.ble args.length 42 = true) (H : wpC Tryd.prog c18 (RF.ofL args) h fun e r h' => e.ends ∧ ∃ vs, evR r h' [.t 2, .t 3] = some vs ∧ K (oneOf vs) h') : Ctr Tryd.prog 18 args h K :=
  ctr_of_wp follows namesOk Tryd.func18 (c := Tryd.f18.body.getD .skip) (by kernel_rfl) (by kernel_rfl) hl c18_ok c18_res H

/-- strings.IndexByte -/
def c23 : RC :=
  RC.seq (RC.reg [⟨(some 4), .mv (.c (.int .i64 0)), none, []⟩])
  (RC.seq (RC.reg [⟨(some 5), .mv (.t 0), none, [0]⟩,
     ⟨(some 6), .mv (.t 1), none, [1]⟩,
     ⟨(some 7), .call 42 [(.t 5), (.t 6)], none, [5, 6]⟩,
     ⟨(some 4), .mv (.t 7), none, [7]⟩])
  (RC.ret))
theorem c23_ok : resK Tryd.prog Tryd.f23.ntmps (Tryd.f23.body.getD .skip) = c23 := by kernel_rfl
theorem c23_res : resR Tryd.prog Tryd.f23.ntmps Tryd.f23.results.toList = [.t 4] := by kernel_rfl
theorem c23_ctr {args : List V} {h : Heap} {K : V → Heap → Prop} (hl : Nat.ble args.length 8 = true) (H : wpC Tryd.prog c23 (RF.ofL args) h fun e r h' => e.ends ∧ ∃ vs, evR r h' [.t 4] = some vs ∧ K (oneOf vs) h') : Ctr Tryd.prog 23 args h K :=
  ctr_of_wp follows namesOk Tryd.func23 (c := Tryd.f23.body.getD .skip) (by kernel_rfl) (by kernel_rfl) hl c23_ok c23_res H

/-- (*gimlet/lex.scanner).has -/
def c24 : RC :=
  RC.seq (RC.reg [⟨(some 4), .mv (.c (.bool false)), none, []⟩])
  (RC.seq (RC.draw [⟨(some 5), .mv (.t 0), none, [0]⟩,
     ⟨(some 6), .nilck (.t 5), none, [5]⟩,
     ⟨(some 7), .fa 0 (.t 6), none, [6]⟩,
     ⟨(some 8), .ld1 (.t 7), none, [7]⟩,
     ⟨(some 9), .mv (.t 0), none, [0]⟩,
     ⟨(some 10), .nilck (.t 9), none, [9]⟩,
     ⟨(some 11), .fa 1 (.t 10), none, [10]⟩,
     ⟨(some 12), .ld1 (.t 11), none, [11]⟩,
     ⟨(some 13), .slstr (.t 8) (some (.t 12)) none none, none, [8, 12]⟩,
     ⟨(some 14), .mv (.t 1), none, [1]⟩,
     ⟨(some 15), .call 43 [(.t 13), (.t 14)], none, [13, 14]⟩,
     ⟨(some 4), .mv (.t 15), none, [15]⟩] [(3, [10]), (7, [10])])
  (RC.ret))
theorem c24_ok : resK Tryd.prog Tryd.f24.ntmps (Tryd.f24.body.getD .skip) = c24 := by kernel_rfl
theorem c24_res : resR Tryd.prog Tryd.f24.ntmps Tryd.f24.results.toList = [.t 4] := by kernel_rfl
theorem c24_ctr {args : List V} {h : Heap} {K : V → Heap → Prop} (hl : Nat.ble args.length 16 = true) (H : wpC Tryd.prog c24 (RF.ofL args) h fun e r h' => e.ends ∧ ∃ vs, evR r h' [.t 4] = some vs ∧ K (oneOf vs) h') : Ctr Tryd.prog 24 args h K :=
  ctr_of_wp follows namesOk Tryd.func24 (c := Tryd.f24.body.getD .skip) (by kernel_rfl) (by kernel_rfl) hl c24_ok c24_res H

/-- (*gimlet/lex.scanner).note -/
def c25l1 : RC :=
  RC.block 1 (RC.block 2 (RC.seq (RC.draw [⟨(some 11), .mv (.t 0), none, [0]⟩,
       ⟨(some 12), .nilck (.t 11), none, [11]⟩,
       ⟨(some 13), .fa 1 (.t 12), none, [12]⟩,
       ⟨(some 14), .ld1 (.t 13), none, [13]⟩,
       ⟨(some 15), .mv (.t 0), none, [0]⟩,
       ⟨(some 16), .nilck (.t 15), none, [15]⟩,
       ⟨(some 17), .fa 0 (.t 16), none, [16]⟩,
       ⟨(some 18), .ld1 (.t 17), none, [17]⟩,
       ⟨(some 19), .len .str (.t 18), none, [18]⟩,
       ⟨(some 20), .bin (.int .geq) (.t 14) (.t 19), none, [14, 19]⟩,
       ⟨(some 10), .mv (.t 20), none, [20]⟩] [])
    (RC.cond (.t 10)
     (RC.seq (RC.reg [⟨(some 21), .mv (.t 0), none, [0]⟩,
         ⟨(some 22), .nilck (.t 21), none, [21]⟩,
         ⟨(some 23), .fa 2 (.t 22), none, [22]⟩,
         ⟨none, .st 1 (.t 23) (.c (.int .i64 253)), none, [23]⟩])
      (RC.ret))
     (RC.seq (RC.reg [⟨(some 25), .mv (.t 0), none, [0]⟩,
         ⟨(some 26), .call 24 [(.t 25), (.c (.str [40, 42]))], none, [25]⟩,
         ⟨(some 24), .mv (.t 26), none, [26]⟩])
      (RC.cond (.t 24)
       (RC.seq (RC.reg [⟨(some 27), .mv (.t 2), none, [2]⟩,
           ⟨(some 28), .bin (.int .add) (.t 27) (.c (.int .i64 1)), none, [27]⟩,
           ⟨(some 2), .mv (.t 28), none, [28]⟩])
        (RC.reg [⟨(some 29), .mv (.t 0), none, [0]⟩,
          ⟨(some 30), .nilck (.t 29), none, [29]⟩,
          ⟨(some 31), .fa 1 (.t 30), none, [30]⟩,
          ⟨(some 32), .ld1 (.t 31), none, [31]⟩,
          ⟨(some 33), .bin (.int .add) (.t 32) (.c (.int .i64 2)), none, [32]⟩,
          ⟨(some 34), .nilck (.t 29), none, [29]⟩,
          ⟨(some 35), .fa 1 (.t 34), none, [34]⟩,
          ⟨none, .st 1 (.t 35) (.t 33), none, [35, 33]⟩]))
       (RC.seq (RC.reg [⟨(some 37), .mv (.t 0), none, [0]⟩,
           ⟨(some 38), .call 24 [(.t 37), (.c (.str [42, 41]))], none, [37]⟩,
           ⟨(some 36), .mv (.t 38), none, [38]⟩])
        (RC.cond (.t 36)
         (RC.seq (RC.reg [⟨(some 39), .mv (.t 2), none, [2]⟩,
             ⟨(some 40), .bin (.int .sub) (.t 39) (.c (.int .i64 1)), none, [39]⟩,
             ⟨(some 2), .mv (.t 40), none, [40]⟩])
          (RC.seq (RC.reg [⟨(some 41), .mv (.t 0), none, [0]⟩,
             ⟨(some 42), .nilck (.t 41), none, [41]⟩,
             ⟨(some 43), .fa 1 (.t 42), none, [42]⟩,
             ⟨(some 44), .ld1 (.t 43), none, [43]⟩,
             ⟨(some 45), .bin (.int .add) (.t 44) (.c (.int .i64 2)), none, [44]⟩,
             ⟨(some 46), .nilck (.t 41), none, [41]⟩,
             ⟨(some 47), .fa 1 (.t 46), none, [46]⟩,
             ⟨none, .st 1 (.t 47) (.t 45), none, [47, 45]⟩])
          (RC.seq (RC.reg [⟨(some 48), .mv (.t 2), none, [2]⟩,
             ⟨(some 49), .bin (.int .eql) (.t 48) (.c (.int .i64 0)), none, [48]⟩])
          (RC.cond (.t 49)
           (RC.ret)
           (RC.skip)))))
         (RC.reg [⟨(some 3), .mv (.t 0), none, [0]⟩,
            ⟨(some 4), .nilck (.t 3), none, [3]⟩,
            ⟨(some 5), .fa 1 (.t 4), none, [4]⟩,
            ⟨(some 6), .ld1 (.t 5), none, [5]⟩,
            ⟨(some 7), .bin (.int .add) (.t 6) (.c (.int .i64 1)), none, [6]⟩,
            ⟨(some 8), .nilck (.t 3), none, [3]⟩,
            ⟨(some 9), .fa 1 (.t 8), none, [8]⟩,
            ⟨none, .st 1 (.t 9) (.t 7), none, [9, 7]⟩]))))))))
def c25 : RC :=
  RC.seq (RC.reg [⟨(some 2), .mv (.c (.int .i64 0)), none, []⟩])
  (RC.block 0 (RC.loop c25l1))
theorem c25_ok : resK Tryd.prog Tryd.f25.ntmps (Tryd.f25.body.getD .skip) = c25 := by kernel_rfl
theorem c25_res : resR Tryd.prog Tryd.f25.ntmps Tryd.f25.results.toList = [] := by kernel_rfl
theorem c25_ctr {args : List V} {h : Heap} {K : V → Heap → Prop} (hl : Nat.ble args.length 50 = true) (H : wpC Tryd.prog c25 (RF.ofL args) h fun e r h' => e.ends ∧ ∃ vs, evR r h' [] = some vs ∧ K (oneOf vs) h') : Ctr Tryd.prog 25 args h K :=
  ctr_of_wp follows namesOk Tryd.func25 (c := Tryd.f25.body.getD .skip) (by kernel_rfl) (by kernel_rfl) hl c25_ok c25_res H

/-- (*gimlet/lex.scanner).next -/
def c26l1 : RC :=
  RC.seq (RC.reg [⟨(some 80), .bin (.int .lss) (.t 79) (.t 78), none, [79, 78]⟩])
  (RC.seq (RC.cond (.t 80)
    (RC.skip)
    (RC.exit 1))
  (RC.seq (RC.block 2 (RC.seq (RC.reg [⟨(some 81), .ia 1 (.t 77) (.t 79), none, [77, 79]⟩,
       ⟨(some 82), .ld1 (.t 81), none, [81]⟩,
       ⟨(some 5), .mv (.t 82), none, [82]⟩])
    (RC.seq (RC.reg [⟨(some 83), .mv (.t 0), none, [0]⟩,
       ⟨(some 84), .mv (.t 5), none, [5]⟩,
       ⟨(some 85), .call 24 [(.t 83), (.t 84)], none, [83, 84]⟩])
    (RC.cond (.t 85)
     (RC.seq (RC.reg [⟨(some 86), .mv (.t 0), none, [0]⟩,
         ⟨(some 87), .nilck (.t 86), none, [86]⟩,
         ⟨(some 88), .fa 1 (.t 87), none, [87]⟩,
         ⟨(some 89), .ld1 (.t 88), none, [88]⟩,
         ⟨(some 90), .mv (.t 5), none, [5]⟩,
         ⟨(some 91), .len .str (.t 90), none, [90]⟩,
         ⟨(some 92), .bin (.int .add) (.t 89) (.t 91), none, [89, 91]⟩,
         ⟨(some 93), .nilck (.t 86), none, [86]⟩,
         ⟨(some 94), .fa 1 (.t 93), none, [93]⟩,
         ⟨none, .st 1 (.t 94) (.t 92), none, [94, 92]⟩])
      (RC.seq (RC.reg [⟨(some 95), .mv (.t 5), none, [5]⟩,
         ⟨(some 96), .build [(.int .i64 0), (.int .i64 0), (.int .i64 0), (.str [])] [(0, 1, (.c (.int .i64 7))), (3, 1, (.t 95))], none, [95]⟩,
         ⟨none, .st 4 (.t 2) (.t 96), none, [2, 96]⟩])
      (RC.ret)))
     (RC.skip)))))
  (RC.reg [⟨(some 97), .bin (.int .add) (.t 79) (.c (.int .i64 1)), none, [79]⟩,
    ⟨(some 79), .mv (.t 97), none, [97]⟩])))
def c26 : RC :=
  RC.seq (RC.reg [⟨(some 2), .new [(.int .i64 0), (.int .i64 0), (.int .i64 0), (.str [])], none, []⟩])
  (RC.seq (RC.draw [⟨(some 6), .mv (.t 0), none, [0]⟩,
     ⟨(some 7), .nilck (.t 6), none, [6]⟩,
     ⟨(some 8), .fa 0 (.t 7), none, [7]⟩,
     ⟨(some 9), .ld1 (.t 8), none, [8]⟩,
     ⟨(some 10), .mv (.t 0), none, [0]⟩,
     ⟨(some 11), .nilck (.t 10), none, [10]⟩,
     ⟨(some 12), .fa 1 (.t 11), none, [11]⟩,
     ⟨(some 13), .ld1 (.t 12), none, [12]⟩,
     ⟨(some 14), .ixs (.t 9) (.t 13), none, [9, 13]⟩,
     ⟨(some 3), .mv (.t 14), none, [14]⟩] [])
  (RC.seq (RC.block 0 (RC.seq (RC.reg [⟨(some 16), .mv (.t 3), none, [3]⟩,
       ⟨(some 17), .call 44 [(.t 16)], none, [16]⟩,
       ⟨(some 15), .mv (.t 17), none, [17]⟩])
    (RC.cond (.t 15)
     (RC.seq (RC.reg [⟨(some 18), .mv (.t 0), none, [0]⟩,
         ⟨(some 19), .call 45 [(.t 18)], none, [18]⟩,
         ⟨none, .st 4 (.t 2) (.t 19), none, [2, 19]⟩])
      (RC.ret))
     (RC.seq (RC.reg [⟨(some 21), .mv (.t 3), none, [3]⟩,
         ⟨(some 22), .bin (.int .eql) (.t 21) (.c (.int .u8 34)), none, [21]⟩,
         ⟨(some 20), .mv (.t 22), none, [22]⟩])
      (RC.cond (.t 20)
       (RC.seq (RC.reg [⟨(some 23), .mv (.t 0), none, [0]⟩,
           ⟨(some 24), .call 46 [(.t 23)], none, [23]⟩,
           ⟨none, .st 4 (.t 2) (.t 24), none, [2, 24]⟩])
        (RC.ret))
       (RC.seq (RC.reg [⟨(some 26), .mv (.t 3), none, [3]⟩,
           ⟨(some 27), .call 47 [(.t 26)], none, [26]⟩,
           ⟨(some 28), .mv (.t 27), none, [27]⟩,
           ⟨(some 29), .mv (.t 3), (some (28, false)), [3, 28]⟩,
           ⟨(some 30), .bin (.int .eql) (.t 29) (.c (.int .u8 95)), (some (28, false)), [29, 28]⟩,
           ⟨(some 31), .pick (.t 28) (.c (.bool true)) (.t 30), none, [28, 30]⟩,
           ⟨(some 25), .mv (.t 31), none, [31]⟩])
        (RC.cond (.t 25)
         (RC.seq (RC.reg [⟨(some 32), .mv (.t 0), none, [0]⟩,
             ⟨(some 33), .call 48 [(.t 32), (.c (.int .i64 3))], none, [32]⟩,
             ⟨none, .st 4 (.t 2) (.t 33), none, [2, 33]⟩])
          (RC.ret))
         (RC.seq (RC.reg [⟨(some 35), .mv (.t 3), none, [3]⟩,
             ⟨(some 36), .call 49 [(.t 35)], none, [35]⟩,
             ⟨(some 34), .mv (.t 36), none, [36]⟩])
          (RC.cond (.t 34)
           (RC.seq (RC.reg [⟨(some 37), .mv (.t 0), none, [0]⟩,
               ⟨(some 38), .call 48 [(.t 37), (.c (.int .i64 4))], none, [37]⟩,
               ⟨none, .st 4 (.t 2) (.t 38), none, [2, 38]⟩])
            (RC.ret))
           (RC.seq (RC.draw [⟨(some 40), .mv (.t 3), none, [3]⟩,
               ⟨(some 41), .bin (.int .eql) (.t 40) (.c (.int .u8 39)), none, [40]⟩,
               ⟨(some 42), .mv (.t 41), none, [41]⟩,
               ⟨(some 43), .mv (.t 0), (some (42, true)), [0, 42]⟩,
               ⟨(some 44), .nilck (.t 43), (some (42, true)), [43, 42]⟩,
               ⟨(some 45), .fa 1 (.t 44), (some (42, true)), [44, 42]⟩,
               ⟨(some 46), .ld1 (.t 45), (some (42, true)), [45, 42]⟩,
               ⟨(some 47), .bin (.int .add) (.t 46) (.c (.int .i64 1)), (some (42, true)), [46, 42]⟩,
               ⟨(some 48), .mv (.t 0), (some (42, true)), [0, 42]⟩,
               ⟨(some 49), .nilck (.t 48), (some (42, true)), [48, 42]⟩,
               ⟨(some 50), .fa 0 (.t 49), (some (42, true)), [49, 42]⟩,
               ⟨(some 51), .ld1 (.t 50), (some (42, true)), [50, 42]⟩,
               ⟨(some 52), .len .str (.t 51), (some (42, true)), [51, 42]⟩,
               ⟨(some 53), .bin (.int .lss) (.t 47) (.t 52), (some (42, true)), [47, 52, 42]⟩,
               ⟨(some 54), .pick (.t 42) (.t 53) (.c (.bool false)), none, [42, 53]⟩,
               ⟨(some 55), .mv (.t 54), none, [54]⟩,
               ⟨(some 56), .mv (.t 0), (some (55, true)), [0, 55]⟩,
               ⟨(some 57), .nilck (.t 56), (some (55, true)), [56, 55]⟩,
               ⟨(some 58), .fa 0 (.t 57), (some (55, true)), [57, 55]⟩,
               ⟨(some 59), .ld1 (.t 58), (some (55, true)), [58, 55]⟩,
               ⟨(some 60), .mv (.t 0), (some (55, true)), [0, 55]⟩,
               ⟨(some 61), .nilck (.t 60), (some (55, true)), [60, 55]⟩,
               ⟨(some 62), .fa 1 (.t 61), (some (55, true)), [61, 55]⟩,
               ⟨(some 63), .ld1 (.t 62), (some (55, true)), [62, 55]⟩,
               ⟨(some 64), .bin (.int .add) (.t 63) (.c (.int .i64 1)), (some (55, true)), [63, 55]⟩,
               ⟨(some 65), .ixs (.t 59) (.t 64), (some (55, true)), [59, 64, 55]⟩,
               ⟨(some 66), .call 47 [(.t 65)], (some (55, true)), [65, 55]⟩,
               ⟨(some 67), .pick (.t 55) (.t 66) (.c (.bool false)), none, [55, 66]⟩,
               ⟨(some 39), .mv (.t 67), none, [67]⟩] [(6, [26]), (11, [26]), (19, [26]), (23, [26])])
            (RC.cond (.t 39)
             (RC.seq (RC.reg [⟨(some 68), .mv (.t 0), none, [0]⟩,
                 ⟨(some 69), .nilck (.t 68), none, [68]⟩,
                 ⟨(some 70), .fa 1 (.t 69), none, [69]⟩,
                 ⟨(some 71), .ld1 (.t 70), none, [70]⟩,
                 ⟨(some 72), .bin (.int .add) (.t 71) (.c (.int .i64 1)), none, [71]⟩,
                 ⟨(some 73), .nilck (.t 68), none, [68]⟩,
                 ⟨(some 74), .fa 1 (.t 73), none, [73]⟩,
                 ⟨none, .st 1 (.t 74) (.t 72), none, [74, 72]⟩])
              (RC.seq (RC.reg [⟨(some 75), .mv (.t 0), none, [0]⟩,
                 ⟨(some 76), .call 48 [(.t 75), (.c (.int .i64 5))], none, [75]⟩,
                 ⟨none, .st 4 (.t 2) (.t 76), none, [2, 76]⟩])
              (RC.ret)))
             (RC.skip))))))))))))
  (RC.seq (RC.seq (RC.reg [⟨(some 77), .call 50 [], none, []⟩,
      ⟨(some 78), .len .slice (.t 77), none, [77]⟩,
      ⟨(some 79), .mv (.c (.int .i64 0)), none, []⟩])
   (RC.block 1 (RC.loop c26l1)))
  (RC.seq (RC.reg [⟨(some 98), .mv (.t 0), none, [0]⟩,
     ⟨(some 99), .nilck (.t 98), none, [98]⟩,
     ⟨(some 100), .fa 2 (.t 99), none, [99]⟩,
     ⟨none, .st 1 (.t 100) (.c (.int .i64 251)), none, [100]⟩])
  (RC.seq (RC.reg [⟨(some 101), .build [(.int .i64 0), (.int .i64 0), (.int .i64 0), (.str [])] [], none, []⟩,
     ⟨none, .st 4 (.t 2) (.t 101), none, [2, 101]⟩])
  (RC.ret))))))
theorem c26_ok : resK Tryd.prog Tryd.f26.ntmps (Tryd.f26.body.getD .skip) = c26 := by kernel_rfl
theorem c26_res : resR Tryd.prog Tryd.f26.ntmps Tryd.f26.results.toList = [.cn 2 4] := by kernel_rfl
theorem c26_ctr {args : List V} {h : Heap} {K : V → Heap → Prop} (hl : Nat.ble args.length 102 = true) (H : wpC Tryd.prog c26 (RF.ofL args) h fun e r h' => e.ends ∧ ∃ vs, evR r h' [.cn 2 4] = some vs ∧ K (oneOf vs) h') : Ctr Tryd.prog 26 args h K :=
  ctr_of_wp follows namesOk Tryd.func26 (c := Tryd.f26.body.getD .skip) (by kernel_rfl) (by kernel_rfl) hl c26_ok c26_res H

/-- gimlet/lex.may -/
def c36 : RC :=
  RC.seq (RC.reg [⟨(some 1), .box (.t 0), none, [0]⟩,
     ⟨(some 2), .mv (.c (.bool false)), none, []⟩])
  (RC.seq (RC.seq (RC.reg [⟨(some 3), .fa 0 (.t 1), none, [1]⟩,
      ⟨(some 4), .ld1 (.t 3), none, [3]⟩])
   (RC.block 0 (RC.seq (RC.reg [⟨(some 6), .bin (.int .eql) (.t 4) (.c (.int .i64 1)), none, [4]⟩,
       ⟨(some 5), .mv (.t 6), none, [6]⟩])
    (RC.cond (.t 5)
     (RC.seq (RC.reg [⟨(some 7), .fa 3 (.t 1), none, [1]⟩,
         ⟨(some 8), .ld1 (.t 7), none, [7]⟩,
         ⟨(some 9), .bin (.str .eql) (.t 8) (.c (.str [])), none, [8]⟩,
         ⟨(some 10), .mv (.t 9), none, [9]⟩,
         ⟨(some 11), .fa 1 (.t 1), (some (10, true)), [1, 10]⟩,
         ⟨(some 12), .ld1 (.t 11), (some (10, true)), [11, 10]⟩,
         ⟨(some 13), .bin (.int .geq) (.t 12) (.c (.int .i64 (-1073741824))), (some (10, true)), [12, 10]⟩,
         ⟨(some 14), .pick (.t 10) (.t 13) (.c (.bool false)), none, [10, 13]⟩,
         ⟨(some 15), .mv (.t 14), none, [14]⟩,
         ⟨(some 16), .fa 1 (.t 1), (some (15, true)), [1, 15]⟩,
         ⟨(some 17), .ld1 (.t 16), (some (15, true)), [16, 15]⟩,
         ⟨(some 18), .bin (.int .leq) (.t 17) (.c (.int .i64 1073741823)), (some (15, true)), [17, 15]⟩,
         ⟨(some 19), .pick (.t 15) (.t 18) (.c (.bool false)), none, [15, 18]⟩,
         ⟨(some 2), .mv (.t 19), none, [19]⟩])
      (RC.ret))
     (RC.seq (RC.reg [⟨(some 21), .bin (.int .eql) (.t 4) (.c (.int .i64 2)), none, [4]⟩,
         ⟨(some 20), .mv (.t 21), none, [21]⟩])
      (RC.cond (.t 20)
       (RC.seq (RC.reg [⟨(some 22), .fa 1 (.t 1), none, [1]⟩,
           ⟨(some 23), .ld1 (.t 22), none, [22]⟩,
           ⟨(some 24), .bin (.int .eql) (.t 23) (.c (.int .i64 0)), none, [23]⟩,
           ⟨(some 25), .mv (.t 24), none, [24]⟩,
           ⟨(some 26), .fa 3 (.t 1), (some (25, true)), [1, 25]⟩,
           ⟨(some 27), .ld1 (.t 26), (some (25, true)), [26, 25]⟩,
           ⟨(some 28), .len .str (.t 27), (some (25, true)), [27, 25]⟩,
           ⟨(some 29), .bin (.int .leq) (.t 28) (.c (.int .i64 4096)), (some (25, true)), [28, 25]⟩,
           ⟨(some 30), .pick (.t 25) (.t 29) (.c (.bool false)), none, [25, 29]⟩,
           ⟨(some 2), .mv (.t 30), none, [30]⟩])
        (RC.ret))
       (RC.seq (RC.seq (RC.reg [⟨(some 32), .bin (.int .eql) (.t 4) (.c (.int .i64 3)), none, [4]⟩,
            ⟨(some 31), .mv (.t 32), none, [32]⟩])
         (RC.cond (.t 31)
          (RC.skip)
          (RC.seq (RC.reg [⟨(some 33), .bin (.int .eql) (.t 4) (.c (.int .i64 4)), none, [4]⟩,
              ⟨(some 31), .mv (.t 33), none, [33]⟩])
           (RC.cond (.t 31)
            (RC.skip)
            (RC.reg [⟨(some 34), .bin (.int .eql) (.t 4) (.c (.int .i64 5)), none, [4]⟩,
               ⟨(some 31), .mv (.t 34), none, [34]⟩])))))
        (RC.cond (.t 31)
         (RC.seq (RC.reg [⟨(some 35), .fa 1 (.t 1), none, [1]⟩,
             ⟨(some 36), .ld1 (.t 35), none, [35]⟩,
             ⟨(some 37), .bin (.int .eql) (.t 36) (.c (.int .i64 0)), none, [36]⟩,
             ⟨(some 38), .mv (.t 37), none, [37]⟩,
             ⟨(some 39), .fa 0 (.t 1), (some (38, true)), [1, 38]⟩,
             ⟨(some 40), .ld1 (.t 39), (some (38, true)), [39, 38]⟩,
             ⟨(some 41), .fa 3 (.t 1), (some (38, true)), [1, 38]⟩,
             ⟨(some 42), .ld1 (.t 41), (some (38, true)), [41, 38]⟩,
             ⟨(some 43), .call 62 [(.t 40), (.t 42)], (some (38, true)), [40, 42, 38]⟩,
             ⟨(some 44), .pick (.t 38) (.t 43) (.c (.bool false)), none, [38, 43]⟩,
             ⟨(some 2), .mv (.t 44), none, [44]⟩])
          (RC.ret))
         (RC.seq (RC.reg [⟨(some 46), .bin (.int .eql) (.t 4) (.c (.int .i64 6)), none, [4]⟩,
             ⟨(some 45), .mv (.t 46), none, [46]⟩])
          (RC.cond (.t 45)
           (RC.seq (RC.reg [⟨(some 47), .fa 1 (.t 1), none, [1]⟩,
               ⟨(some 48), .ld1 (.t 47), none, [47]⟩,
               ⟨(some 49), .bin (.int .eql) (.t 48) (.c (.int .i64 0)), none, [48]⟩,
               ⟨(some 50), .mv (.t 49), none, [49]⟩,
               ⟨(some 51), .fa 3 (.t 1), (some (50, true)), [1, 50]⟩,
               ⟨(some 52), .ld1 (.t 51), (some (50, true)), [51, 50]⟩,
               ⟨(some 53), .bin (.str .neq) (.t 52) (.c (.str [])), (some (50, true)), [52, 50]⟩,
               ⟨(some 54), .pick (.t 50) (.t 53) (.c (.bool false)), none, [50, 53]⟩,
               ⟨(some 55), .mv (.t 54), none, [54]⟩,
               ⟨(some 56), .fa 3 (.t 1), (some (55, true)), [1, 55]⟩,
               ⟨(some 57), .ld1 (.t 56), (some (55, true)), [56, 55]⟩,
               ⟨(some 58), .call 63 [(.t 57), (.c (.str [32]))], (some (55, true)), [57, 55]⟩,
               ⟨(some 59), .un .not (.t 58), (some (55, true)), [58, 55]⟩,
               ⟨(some 60), .pick (.t 55) (.t 59) (.c (.bool false)), none, [55, 59]⟩,
               ⟨(some 61), .mv (.t 60), none, [60]⟩,
               ⟨(some 62), .fa 3 (.t 1), (some (61, true)), [1, 61]⟩,
               ⟨(some 63), .ld1 (.t 62), (some (61, true)), [62, 61]⟩,
               ⟨(some 64), .bin (.str .add) (.c (.str [32])) (.t 63), (some (61, true)), [63, 61]⟩,
               ⟨(some 65), .bin (.str .add) (.t 64) (.c (.str [32])), (some (61, true)), [64, 61]⟩,
               ⟨(some 66), .call 63 [(.c (.str [32, 97, 110, 100, 32, 98, 101, 103, 105, 110, 32, 101, 108, 115, 101, 32, 101, 110, 100, 32, 101, 120, 99, 101, 112, 116, 105, 111, 110, 32, 102, 97, 108, 115, 101, 32, 102, 117, 110, 32, 105, 102, 32, 105, 110, 32, 108, 101, 116, 32, 109, 97, 116, 99, 104, 32, 109, 111, 100, 32, 111, 102, 32, 114, 97, 105, 115, 101, 32, 114, 101, 99, 32, 116, 104, 101, 110, 32, 116, 114, 117, 101, 32, 116, 114, 121, 32, 116, 121, 112, 101, 32, 119, 105, 116, 104, 32])), (.t 65)], (some (61, true)), [65, 61]⟩,
               ⟨(some 67), .pick (.t 61) (.t 66) (.c (.bool false)), none, [61, 66]⟩,
               ⟨(some 2), .mv (.t 67), none, [67]⟩])
            (RC.ret))
           (RC.seq (RC.reg [⟨(some 69), .bin (.int .eql) (.t 4) (.c (.int .i64 7)), none, [4]⟩,
               ⟨(some 68), .mv (.t 69), none, [69]⟩])
            (RC.cond (.t 68)
             (RC.seq (RC.draw [⟨(some 70), .fa 1 (.t 1), none, [1]⟩,
                 ⟨(some 71), .ld1 (.t 70), none, [70]⟩,
                 ⟨(some 72), .bin (.int .eql) (.t 71) (.c (.int .i64 0)), none, [71]⟩,
                 ⟨(some 73), .mv (.t 72), none, [72]⟩,
                 ⟨(some 75), .fa 3 (.t 1), (some (73, true)), [1, 73]⟩,
                 ⟨(some 76), .ld1 (.t 75), (some (73, true)), [75, 73]⟩,
                 ⟨(some 74), .call 50 [], (some (73, true)), [73]⟩,
                 ⟨(some 77), .call 64 [(.t 74), (.t 76)], (some (73, true)), [74, 76, 73]⟩,
                 ⟨(some 78), .pick (.t 73) (.t 77) (.c (.bool false)), none, [73, 77]⟩,
                 ⟨(some 2), .mv (.t 78), none, [78]⟩] [(1, [6]), (5, [6, 7])])
              (RC.ret))
             (RC.skip)))))))))))))
  (RC.seq (RC.reg [⟨(some 2), .mv (.c (.bool false)), none, []⟩])
  (RC.ret)))
theorem c36_ok : resK Tryd.prog Tryd.f36.ntmps (Tryd.f36.body.getD .skip) = c36 := by kernel_rfl
theorem c36_res : resR Tryd.prog Tryd.f36.ntmps Tryd.f36.results.toList = [.t 2] := by kernel_rfl
theorem c36_ctr {args : List V} {h : Heap} {K : V → Heap → Prop} (hl : Nat.ble args.length 79 = true) (H : wpC Tryd.prog c36 (RF.ofL args) h fun e r h' => e.ends ∧ ∃ vs, evR r h' [.t 2] = some vs ∧ K (oneOf vs) h') : Ctr Tryd.prog 36 args h K :=
  ctr_of_wp follows namesOk Tryd.func36 (c := Tryd.f36.body.getD .skip) (by kernel_rfl) (by kernel_rfl) hl c36_ok c36_res H

/-- gimlet/lex.quoted -/
def c38l1 : RC :=
  RC.seq (RC.reg [⟨(some 11), .bin (.int .lss) (.t 10) (.t 9), none, [10, 9]⟩])
  (RC.seq (RC.cond (.t 11)
    (RC.skip)
    (RC.exit 0))
  (RC.seq (RC.block 1 (RC.seq (RC.reg [⟨(some 12), .ia 1 (.t 8) (.t 10), none, [8, 10]⟩,
       ⟨(some 13), .ld1 (.t 12), none, [12]⟩,
       ⟨(some 5), .mv (.t 13), none, [13]⟩])
    (RC.block 2 (RC.seq (RC.reg [⟨(some 19), .mv (.t 5), none, [5]⟩,
        ⟨(some 20), .bin (.int .eql) (.t 19) (.c (.int .u8 34)), none, [19]⟩,
        ⟨(some 21), .mv (.t 20), none, [20]⟩,
        ⟨(some 22), .mv (.t 5), (some (21, false)), [5, 21]⟩,
        ⟨(some 23), .bin (.int .eql) (.t 22) (.c (.int .u8 92)), (some (21, false)), [22, 21]⟩,
        ⟨(some 24), .pick (.t 21) (.c (.bool true)) (.t 23), none, [21, 23]⟩,
        ⟨(some 18), .mv (.t 24), none, [24]⟩])
     (RC.cond (.t 18)
      (RC.reg [⟨(some 25), .mv (.t 3), none, [3]⟩,
         ⟨(some 26), .mv (.t 5), none, [5]⟩,
         ⟨(some 27), .bsl 2 1 [(.int .u8 0)] [(0, 1, (.c (.int .u8 92))), (1, 1, (.t 26))], none, [26]⟩,
         ⟨(some 28), .app 1 (.t 25) (.t 27), none, [25, 27]⟩,
         ⟨(some 3), .mv (.t 28), none, [28]⟩])
      (RC.seq (RC.reg [⟨(some 30), .mv (.t 5), none, [5]⟩,
          ⟨(some 31), .bin (.int .lss) (.t 30) (.c (.int .u8 32)), none, [30]⟩,
          ⟨(some 32), .mv (.t 31), none, [31]⟩,
          ⟨(some 33), .mv (.t 5), (some (32, false)), [5, 32]⟩,
          ⟨(some 34), .bin (.int .geq) (.t 33) (.c (.int .u8 127)), (some (32, false)), [33, 32]⟩,
          ⟨(some 35), .pick (.t 32) (.c (.bool true)) (.t 34), none, [32, 34]⟩,
          ⟨(some 29), .mv (.t 35), none, [35]⟩])
       (RC.cond (.t 29)
        (RC.reg [⟨(some 36), .mv (.t 3), none, [3]⟩,
           ⟨(some 37), .mv (.t 5), none, [5]⟩,
           ⟨(some 38), .bin (.int .quo) (.t 37) (.c (.int .u8 100)), none, [37]⟩,
           ⟨(some 39), .bin (.int .add) (.c (.int .u8 48)) (.t 38), none, [38]⟩,
           ⟨(some 40), .mv (.t 5), none, [5]⟩,
           ⟨(some 41), .bin (.int .quo) (.t 40) (.c (.int .u8 10)), none, [40]⟩,
           ⟨(some 42), .bin (.int .rem) (.t 41) (.c (.int .u8 10)), none, [41]⟩,
           ⟨(some 43), .bin (.int .add) (.c (.int .u8 48)) (.t 42), none, [42]⟩,
           ⟨(some 44), .mv (.t 5), none, [5]⟩,
           ⟨(some 45), .bin (.int .rem) (.t 44) (.c (.int .u8 10)), none, [44]⟩,
           ⟨(some 46), .bin (.int .add) (.c (.int .u8 48)) (.t 45), none, [45]⟩,
           ⟨(some 47), .bsl 4 1 [(.int .u8 0)] [(0, 1, (.c (.int .u8 92))), (1, 1, (.t 39)), (2, 1, (.t 43)), (3, 1, (.t 46))], none, [39, 43, 46]⟩,
           ⟨(some 48), .app 1 (.t 36) (.t 47), none, [36, 47]⟩,
           ⟨(some 3), .mv (.t 48), none, [48]⟩])
        (RC.reg [⟨(some 14), .mv (.t 3), none, [3]⟩,
           ⟨(some 15), .mv (.t 5), none, [5]⟩,
           ⟨(some 16), .bsl 1 1 [(.int .u8 0)] [(0, 1, (.t 15))], none, [15]⟩,
           ⟨(some 17), .app 1 (.t 14) (.t 16), none, [14, 16]⟩,
           ⟨(some 3), .mv (.t 17), none, [17]⟩]))))))))
  (RC.reg [⟨(some 49), .bin (.int .add) (.t 10) (.c (.int .i64 1)), none, [10]⟩,
    ⟨(some 10), .mv (.t 49), none, [49]⟩])))
def c38 : RC :=
  RC.seq (RC.reg [⟨(some 2), .mv (.c (.str [])), none, []⟩])
  (RC.seq (RC.reg [⟨(some 6), .bsl 1 1 [(.int .u8 0)] [(0, 1, (.c (.int .u8 34)))], none, []⟩,
     ⟨(some 3), .mv (.t 6), none, [6]⟩])
  (RC.seq (RC.seq (RC.reg [⟨(some 7), .mv (.t 0), none, [0]⟩,
      ⟨(some 8), .cv .bytes (.t 7), none, [7]⟩,
      ⟨(some 9), .len .slice (.t 8), none, [8]⟩,
      ⟨(some 10), .mv (.c (.int .i64 0)), none, []⟩])
   (RC.block 0 (RC.loop c38l1)))
  (RC.seq (RC.reg [⟨(some 50), .mv (.t 3), none, [3]⟩,
     ⟨(some 51), .bsl 1 1 [(.int .u8 0)] [(0, 1, (.c (.int .u8 34)))], none, []⟩,
     ⟨(some 52), .app 1 (.t 50) (.t 51), none, [50, 51]⟩,
     ⟨(some 53), .cv .str (.t 52), none, [52]⟩,
     ⟨(some 2), .mv (.t 53), none, [53]⟩])
  (RC.ret))))
theorem c38_ok : resK Tryd.prog Tryd.f38.ntmps (Tryd.f38.body.getD .skip) = c38 := by kernel_rfl
theorem c38_res : resR Tryd.prog Tryd.f38.ntmps Tryd.f38.results.toList = [.t 2] := by kernel_rfl
theorem c38_ctr {args : List V} {h : Heap} {K : V → Heap → Prop} (hl : Nat.ble args.length 54 = true) (H : wpC Tryd.prog c38 (RF.ofL args) h fun e r h' => e.ends ∧ ∃ vs, evR r h' [.t 2] = some vs ∧ K (oneOf vs) h') : Ctr Tryd.prog 38 args h K :=
  ctr_of_wp follows namesOk Tryd.func38 (c := Tryd.f38.body.getD .skip) (by kernel_rfl) (by kernel_rfl) hl c38_ok c38_res H

/-- internal/stringslite.IndexByte -/
def c42 : RC :=
  RC.seq (RC.reg [⟨(some 4), .mv (.c (.int .i64 0)), none, []⟩])
  (RC.seq (RC.reg [⟨(some 5), .mv (.t 0), none, [0]⟩,
     ⟨(some 6), .mv (.t 1), none, [1]⟩,
     ⟨(some 7), .call 72 [(.t 5), (.t 6)], none, [5, 6]⟩,
     ⟨(some 4), .mv (.t 7), none, [7]⟩])
  (RC.ret))
theorem c42_ok : resK Tryd.prog Tryd.f42.ntmps (Tryd.f42.body.getD .skip) = c42 := by kernel_rfl
theorem c42_res : resR Tryd.prog Tryd.f42.ntmps Tryd.f42.results.toList = [.t 4] := by kernel_rfl
theorem c42_ctr {args : List V} {h : Heap} {K : V → Heap → Prop} (hl : Nat.ble args.length 8 = true) (H : wpC Tryd.prog c42 (RF.ofL args) h fun e r h' => e.ends ∧ ∃ vs, evR r h' [.t 4] = some vs ∧ K (oneOf vs) h') : Ctr Tryd.prog 42 args h K :=
  ctr_of_wp follows namesOk Tryd.func42 (c := Tryd.f42.body.getD .skip) (by kernel_rfl) (by kernel_rfl) hl c42_ok c42_res H

/-- strings.HasPrefix -/
def c43 : RC :=
  RC.seq (RC.reg [⟨(some 4), .mv (.c (.bool false)), none, []⟩])
  (RC.seq (RC.reg [⟨(some 5), .mv (.t 0), none, [0]⟩,
     ⟨(some 6), .mv (.t 1), none, [1]⟩,
     ⟨(some 7), .call 73 [(.t 5), (.t 6)], none, [5, 6]⟩,
     ⟨(some 4), .mv (.t 7), none, [7]⟩])
  (RC.ret))
theorem c43_ok : resK Tryd.prog Tryd.f43.ntmps (Tryd.f43.body.getD .skip) = c43 := by kernel_rfl
theorem c43_res : resR Tryd.prog Tryd.f43.ntmps Tryd.f43.results.toList = [.t 4] := by kernel_rfl
theorem c43_ctr {args : List V} {h : Heap} {K : V → Heap → Prop} (hl : Nat.ble args.length 8 = true) (H : wpC Tryd.prog c43 (RF.ofL args) h fun e r h' => e.ends ∧ ∃ vs, evR r h' [.t 4] = some vs ∧ K (oneOf vs) h') : Ctr Tryd.prog 43 args h K :=
  ctr_of_wp follows namesOk Tryd.func43 (c := Tryd.f43.body.getD .skip) (by kernel_rfl) (by kernel_rfl) hl c43_ok c43_res H

/-- gimlet/lex.digit -/
def c44 : RC :=
  RC.seq (RC.reg [⟨(some 2), .mv (.c (.bool false)), none, []⟩])
  (RC.seq (RC.reg [⟨(some 3), .mv (.t 0), none, [0]⟩,
     ⟨(some 4), .bin (.int .geq) (.t 3) (.c (.int .u8 48)), none, [3]⟩,
     ⟨(some 5), .mv (.t 4), none, [4]⟩,
     ⟨(some 6), .mv (.t 0), (some (5, true)), [0, 5]⟩,
     ⟨(some 7), .bin (.int .leq) (.t 6) (.c (.int .u8 57)), (some (5, true)), [6, 5]⟩,
     ⟨(some 8), .pick (.t 5) (.t 7) (.c (.bool false)), none, [5, 7]⟩,
     ⟨(some 2), .mv (.t 8), none, [8]⟩])
  (RC.ret))
theorem c44_ok : resK Tryd.prog Tryd.f44.ntmps (Tryd.f44.body.getD .skip) = c44 := by kernel_rfl
theorem c44_res : resR Tryd.prog Tryd.f44.ntmps Tryd.f44.results.toList = [.t 2] := by kernel_rfl
theorem c44_ctr {args : List V} {h : Heap} {K : V → Heap → Prop} (hl : Nat.ble args.length 9 = true) (H : wpC Tryd.prog c44 (RF.ofL args) h fun e r h' => e.ends ∧ ∃ vs, evR r h' [.t 2] = some vs ∧ K (oneOf vs) h') : Ctr Tryd.prog 44 args h K :=
  ctr_of_wp follows namesOk Tryd.func44 (c := Tryd.f44.body.getD .skip) (by kernel_rfl) (by kernel_rfl) hl c44_ok c44_res H

/-- (*gimlet/lex.scanner).number -/
def c45 : RC :=
  RC.seq (RC.reg [⟨(some 2), .new [(.int .i64 0), (.int .i64 0), (.int .i64 0), (.str [])], none, []⟩])
  (RC.seq (RC.reg [⟨(some 7), .mv (.t 0), none, [0]⟩,
     ⟨(some 8), .call 75 [(.t 7), (.c (.func 44 []))], none, [7]⟩,
     ⟨(some 9), .call 74 [(.t 8), (.c (.int .i64 10)), (.c (.int .i64 64))], none, [8]⟩,
     ⟨(some 6), .mv (.t 9), none, [9]⟩,
     ⟨(some 10), .ext (.t 6) 0, none, [6]⟩,
     ⟨(some 11), .ext (.t 6) 1, none, [6]⟩,
     ⟨(some 3), .mv (.t 10), none, [10]⟩,
     ⟨(some 4), .mv (.t 11), none, [11]⟩])
  (RC.seq (RC.seq (RC.reg [⟨(some 12), .mv (.t 4), none, [4]⟩,
      ⟨(some 13), .bin (.eqn true 5) (.t 12) (.c .nilIface), none, [12]⟩,
      ⟨(some 14), .mv (.t 13), none, [13]⟩,
      ⟨(some 15), .mv (.t 3), (some (14, false)), [3, 14]⟩,
      ⟨(some 16), .bin (.int .gtr) (.t 15) (.c (.int .u64 2147483647)), (some (14, false)), [15, 14]⟩,
      ⟨(some 17), .pick (.t 14) (.c (.bool true)) (.t 16), none, [14, 16]⟩])
   (RC.cond (.t 17)
    (RC.seq (RC.reg [⟨(some 18), .mv (.t 0), none, [0]⟩,
        ⟨(some 19), .nilck (.t 18), none, [18]⟩,
        ⟨(some 20), .fa 2 (.t 19), none, [19]⟩,
        ⟨none, .st 1 (.t 20) (.c (.int .i64 254)), none, [20]⟩])
     (RC.seq (RC.reg [⟨(some 21), .build [(.int .i64 0), (.int .i64 0), (.int .i64 0), (.str [])] [], none, []⟩,
        ⟨none, .st 4 (.t 2) (.t 21), none, [2, 21]⟩])
     (RC.ret)))
    (RC.skip)))
  (RC.seq (RC.reg [⟨(some 22), .mv (.t 3), none, [3]⟩,
     ⟨(some 23), .cv (.int .i64) (.t 22), none, [22]⟩,
     ⟨(some 5), .mv (.t 23), none, [23]⟩])
  (RC.seq (RC.seq (RC.reg [⟨(some 24), .mv (.t 5), none, [5]⟩,
      ⟨(some 25), .bin (.int .gtr) (.t 24) (.c (.int .i64 1073741823)), none, [24]⟩])
   (RC.cond (.t 25)
    (RC.reg [⟨(some 26), .mv (.t 5), none, [5]⟩,
       ⟨(some 27), .bin (.int .sub) (.t 26) (.c (.int .i64 2147483648)), none, [26]⟩,
       ⟨(some 5), .mv (.t 27), none, [27]⟩])
    (RC.skip)))
  (RC.seq (RC.reg [⟨(some 28), .mv (.t 5), none, [5]⟩,
     ⟨(some 29), .build [(.int .i64 0), (.int .i64 0), (.int .i64 0), (.str [])] [(0, 1, (.c (.int .i64 1))), (1, 1, (.t 28))], none, [28]⟩,
     ⟨none, .st 4 (.t 2) (.t 29), none, [2, 29]⟩])
  (RC.ret))))))
theorem c45_ok : resK Tryd.prog Tryd.f45.ntmps (Tryd.f45.body.getD .skip) = c45 := by kernel_rfl
theorem c45_res : resR Tryd.prog Tryd.f45.ntmps Tryd.f45.results.toList = [.cn 2 4] := by kernel_rfl
theorem c45_ctr {args : List V} {h : Heap} {K : V → Heap → Prop} (hl : Nat.ble args.length 30 = true) (H : wpC Tryd.prog c45 (RF.ofL args) h fun e r h' => e.ends ∧ ∃ vs, evR r h' [.cn 2 4] = some vs ∧ K (oneOf vs) h') : Ctr Tryd.prog 45 args h K :=
  ctr_of_wp follows namesOk Tryd.func45 (c := Tryd.f45.body.getD .skip) (by kernel_rfl) (by kernel_rfl) hl c45_ok c45_res H

/-- (*gimlet/lex.scanner).text -/
def c46l1 : RC :=
  RC.seq (RC.seq (RC.reg [⟨(some 12), .mv (.t 0), none, [0]⟩,
      ⟨(some 13), .nilck (.t 12), none, [12]⟩,
      ⟨(some 14), .fa 2 (.t 13), none, [13]⟩,
      ⟨(some 15), .ld1 (.t 14), none, [14]⟩,
      ⟨(some 16), .bin (.int .eql) (.t 15) (.c (.int .i64 0)), none, [15]⟩])
   (RC.cond (.t 16)
    (RC.skip)
    (RC.exit 0)))
  (RC.block 1 (RC.seq (RC.seq (RC.draw [⟨(some 17), .mv (.t 0), none, [0]⟩,
       ⟨(some 18), .nilck (.t 17), none, [17]⟩,
       ⟨(some 19), .fa 1 (.t 18), none, [18]⟩,
       ⟨(some 20), .ld1 (.t 19), none, [19]⟩,
       ⟨(some 21), .mv (.t 0), none, [0]⟩,
       ⟨(some 22), .nilck (.t 21), none, [21]⟩,
       ⟨(some 23), .fa 0 (.t 22), none, [22]⟩,
       ⟨(some 24), .ld1 (.t 23), none, [23]⟩,
       ⟨(some 25), .len .str (.t 24), none, [24]⟩,
       ⟨(some 26), .bin (.int .geq) (.t 20) (.t 25), none, [20, 25]⟩] [])
    (RC.cond (.t 26)
     (RC.seq (RC.reg [⟨(some 27), .mv (.t 0), none, [0]⟩,
         ⟨(some 28), .nilck (.t 27), none, [27]⟩,
         ⟨(some 29), .fa 2 (.t 28), none, [28]⟩,
         ⟨none, .st 1 (.t 29) (.c (.int .i64 252)), none, [29]⟩])
      (RC.exit 0))
     (RC.skip)))
   (RC.seq (RC.draw [⟨(some 30), .mv (.t 0), none, [0]⟩,
      ⟨(some 31), .nilck (.t 30), none, [30]⟩,
      ⟨(some 32), .fa 0 (.t 31), none, [31]⟩,
      ⟨(some 33), .ld1 (.t 32), none, [32]⟩,
      ⟨(some 34), .mv (.t 0), none, [0]⟩,
      ⟨(some 35), .nilck (.t 34), none, [34]⟩,
      ⟨(some 36), .fa 1 (.t 35), none, [35]⟩,
      ⟨(some 37), .ld1 (.t 36), none, [36]⟩,
      ⟨(some 38), .ixs (.t 33) (.t 37), none, [33, 37]⟩,
      ⟨(some 4), .mv (.t 38), none, [38]⟩] [])
   (RC.block 2 (RC.seq (RC.reg [⟨(some 51), .mv (.t 4), none, [4]⟩,
       ⟨(some 52), .bin (.int .eql) (.t 51) (.c (.int .u8 34)), none, [51]⟩,
       ⟨(some 50), .mv (.t 52), none, [52]⟩])
    (RC.cond (.t 50)
     (RC.seq (RC.reg [⟨(some 53), .mv (.t 0), none, [0]⟩,
         ⟨(some 54), .nilck (.t 53), none, [53]⟩,
         ⟨(some 55), .fa 1 (.t 54), none, [54]⟩,
         ⟨(some 56), .ld1 (.t 55), none, [55]⟩,
         ⟨(some 57), .bin (.int .add) (.t 56) (.c (.int .i64 1)), none, [56]⟩,
         ⟨(some 58), .nilck (.t 53), none, [53]⟩,
         ⟨(some 59), .fa 1 (.t 58), none, [58]⟩,
         ⟨none, .st 1 (.t 59) (.t 57), none, [59, 57]⟩])
      (RC.seq (RC.seq (RC.reg [⟨(some 60), .mv (.t 3), none, [3]⟩,
          ⟨(some 61), .len .slice (.t 60), none, [60]⟩,
          ⟨(some 62), .bin (.int .gtr) (.t 61) (.c (.int .i64 4096)), none, [61]⟩])
       (RC.cond (.t 62)
        (RC.reg [⟨(some 63), .mv (.t 0), none, [0]⟩,
           ⟨(some 64), .nilck (.t 63), none, [63]⟩,
           ⟨(some 65), .fa 2 (.t 64), none, [64]⟩,
           ⟨none, .st 1 (.t 65) (.c (.int .i64 255)), none, [65]⟩])
        (RC.skip)))
      (RC.seq (RC.reg [⟨(some 66), .mv (.t 3), none, [3]⟩,
         ⟨(some 67), .cv .str (.t 66), none, [66]⟩,
         ⟨(some 68), .build [(.int .i64 0), (.int .i64 0), (.int .i64 0), (.str [])] [(0, 1, (.c (.int .i64 2))), (3, 1, (.t 67))], none, [67]⟩,
         ⟨none, .st 4 (.t 2) (.t 68), none, [2, 68]⟩])
      (RC.ret))))
     (RC.seq (RC.reg [⟨(some 70), .mv (.t 4), none, [4]⟩,
         ⟨(some 71), .bin (.int .eql) (.t 70) (.c (.int .u8 92)), none, [70]⟩,
         ⟨(some 69), .mv (.t 71), none, [71]⟩])
      (RC.cond (.t 69)
       (RC.reg [⟨(some 72), .mv (.t 3), none, [3]⟩,
          ⟨(some 73), .mv (.t 0), none, [0]⟩,
          ⟨(some 74), .call 76 [(.t 73)], none, [73]⟩,
          ⟨(some 75), .bsl 1 1 [(.int .u8 0)] [(0, 1, (.t 74))], none, [74]⟩,
          ⟨(some 76), .app 1 (.t 72) (.t 75), none, [72, 75]⟩,
          ⟨(some 3), .mv (.t 76), none, [76]⟩])
       (RC.seq (RC.reg [⟨(some 78), .mv (.t 4), none, [4]⟩,
           ⟨(some 79), .bin (.int .lss) (.t 78) (.c (.int .u8 32)), none, [78]⟩,
           ⟨(some 80), .mv (.t 79), none, [79]⟩,
           ⟨(some 81), .mv (.t 4), (some (80, false)), [4, 80]⟩,
           ⟨(some 82), .bin (.int .eql) (.t 81) (.c (.int .u8 127)), (some (80, false)), [81, 80]⟩,
           ⟨(some 83), .pick (.t 80) (.c (.bool true)) (.t 82), none, [80, 82]⟩,
           ⟨(some 77), .mv (.t 83), none, [83]⟩])
        (RC.cond (.t 77)
         (RC.reg [⟨(some 84), .mv (.t 0), none, [0]⟩,
            ⟨(some 85), .nilck (.t 84), none, [84]⟩,
            ⟨(some 86), .fa 2 (.t 85), none, [85]⟩,
            ⟨none, .st 1 (.t 86) (.c (.int .i64 252)), none, [86]⟩])
         (RC.seq (RC.reg [⟨(some 39), .mv (.t 0), none, [0]⟩,
             ⟨(some 40), .nilck (.t 39), none, [39]⟩,
             ⟨(some 41), .fa 1 (.t 40), none, [40]⟩,
             ⟨(some 42), .ld1 (.t 41), none, [41]⟩,
             ⟨(some 43), .bin (.int .add) (.t 42) (.c (.int .i64 1)), none, [42]⟩,
             ⟨(some 44), .nilck (.t 39), none, [39]⟩,
             ⟨(some 45), .fa 1 (.t 44), none, [44]⟩,
             ⟨none, .st 1 (.t 45) (.t 43), none, [45, 43]⟩])
          (RC.reg [⟨(some 46), .mv (.t 3), none, [3]⟩,
            ⟨(some 47), .mv (.t 4), none, [4]⟩,
            ⟨(some 48), .bsl 1 1 [(.int .u8 0)] [(0, 1, (.t 47))], none, [47]⟩,
            ⟨(some 49), .app 1 (.t 46) (.t 48), none, [46, 48]⟩,
            ⟨(some 3), .mv (.t 49), none, [49]⟩]))))))))))))
def c46 : RC :=
  RC.seq (RC.reg [⟨(some 2), .new [(.int .i64 0), (.int .i64 0), (.int .i64 0), (.str [])], none, []⟩])
  (RC.seq (RC.reg [⟨(some 5), .mv (.t 0), none, [0]⟩,
     ⟨(some 6), .nilck (.t 5), none, [5]⟩,
     ⟨(some 7), .fa 1 (.t 6), none, [6]⟩,
     ⟨(some 8), .ld1 (.t 7), none, [7]⟩,
     ⟨(some 9), .bin (.int .add) (.t 8) (.c (.int .i64 1)), none, [8]⟩,
     ⟨(some 10), .nilck (.t 5), none, [5]⟩,
     ⟨(some 11), .fa 1 (.t 10), none, [10]⟩,
     ⟨none, .st 1 (.t 11) (.t 9), none, [11, 9]⟩])
  (RC.seq (RC.reg [⟨(some 3), .mv (.c .nilslice), none, []⟩])
  (RC.seq (RC.block 0 (RC.loop c46l1))
  (RC.seq (RC.reg [⟨(some 87), .build [(.int .i64 0), (.int .i64 0), (.int .i64 0), (.str [])] [], none, []⟩,
     ⟨none, .st 4 (.t 2) (.t 87), none, [2, 87]⟩])
  (RC.ret)))))
theorem c46_ok : resK Tryd.prog Tryd.f46.ntmps (Tryd.f46.body.getD .skip) = c46 := by kernel_rfl
theorem c46_res : resR Tryd.prog Tryd.f46.ntmps Tryd.f46.results.toList = [.cn 2 4] := by kernel_rfl
theorem c46_ctr {args : List V} {h : Heap} {K : V → Heap → Prop} (hl : Nat.ble args.length 88 = true) (H : wpC Tryd.prog c46 (RF.ofL args) h fun e r h' => e.ends ∧ ∃ vs, evR r h' [.cn 2 4] = some vs ∧ K (oneOf vs) h') : Ctr Tryd.prog 46 args h K :=
  ctr_of_wp follows namesOk Tryd.func46 (c := Tryd.f46.body.getD .skip) (by kernel_rfl) (by kernel_rfl) hl c46_ok c46_res H

/-- gimlet/lex.small -/
def c47 : RC :=
  RC.seq (RC.reg [⟨(some 2), .mv (.c (.bool false)), none, []⟩])
  (RC.seq (RC.reg [⟨(some 3), .mv (.t 0), none, [0]⟩,
     ⟨(some 4), .bin (.int .geq) (.t 3) (.c (.int .u8 97)), none, [3]⟩,
     ⟨(some 5), .mv (.t 4), none, [4]⟩,
     ⟨(some 6), .mv (.t 0), (some (5, true)), [0, 5]⟩,
     ⟨(some 7), .bin (.int .leq) (.t 6) (.c (.int .u8 122)), (some (5, true)), [6, 5]⟩,
     ⟨(some 8), .pick (.t 5) (.t 7) (.c (.bool false)), none, [5, 7]⟩,
     ⟨(some 2), .mv (.t 8), none, [8]⟩])
  (RC.ret))
theorem c47_ok : resK Tryd.prog Tryd.f47.ntmps (Tryd.f47.body.getD .skip) = c47 := by kernel_rfl
theorem c47_res : resR Tryd.prog Tryd.f47.ntmps Tryd.f47.results.toList = [.t 2] := by kernel_rfl
theorem c47_ctr {args : List V} {h : Heap} {K : V → Heap → Prop} (hl : Nat.ble args.length 9 = true) (H : wpC Tryd.prog c47 (RF.ofL args) h fun e r h' => e.ends ∧ ∃ vs, evR r h' [.t 2] = some vs ∧ K (oneOf vs) h') : Ctr Tryd.prog 47 args h K :=
  ctr_of_wp follows namesOk Tryd.func47 (c := Tryd.f47.body.getD .skip) (by kernel_rfl) (by kernel_rfl) hl c47_ok c47_res H

/-- (*gimlet/lex.scanner).name -/
def c48 : RC :=
  RC.seq (RC.reg [⟨(some 4), .new [(.int .i64 0), (.int .i64 0), (.int .i64 0), (.str [])], none, []⟩])
  (RC.seq (RC.reg [⟨(some 6), .mv (.t 0), none, [0]⟩,
     ⟨(some 7), .call 75 [(.t 6), (.c (.func 77 []))], none, [6]⟩,
     ⟨(some 5), .mv (.t 7), none, [7]⟩])
  (RC.seq (RC.block 0 (RC.seq (RC.reg [⟨(some 9), .mv (.t 1), none, [1]⟩,
       ⟨(some 10), .bin (.int .eql) (.t 9) (.c (.int .i64 3)), none, [9]⟩,
       ⟨(some 11), .mv (.t 10), none, [10]⟩,
       ⟨(some 12), .mv (.t 5), (some (11, true)), [5, 11]⟩,
       ⟨(some 13), .bin (.str .eql) (.t 12) (.c (.str [95])), (some (11, true)), [12, 11]⟩,
       ⟨(some 14), .pick (.t 11) (.t 13) (.c (.bool false)), none, [11, 13]⟩,
       ⟨(some 8), .mv (.t 14), none, [14]⟩])
    (RC.cond (.t 8)
     (RC.seq (RC.reg [⟨(some 15), .mv (.t 5), none, [5]⟩,
         ⟨(some 16), .build [(.int .i64 0), (.int .i64 0), (.int .i64 0), (.str [])] [(0, 1, (.c (.int .i64 7))), (3, 1, (.t 15))], none, [15]⟩,
         ⟨none, .st 4 (.t 4) (.t 16), none, [4, 16]⟩])
      (RC.ret))
     (RC.seq (RC.reg [⟨(some 18), .mv (.t 1), none, [1]⟩,
         ⟨(some 19), .bin (.int .eql) (.t 18) (.c (.int .i64 3)), none, [18]⟩,
         ⟨(some 20), .mv (.t 19), none, [19]⟩,
         ⟨(some 21), .mv (.t 5), (some (20, true)), [5, 20]⟩,
         ⟨(some 22), .bin (.str .add) (.c (.str [32])) (.t 21), (some (20, true)), [21, 20]⟩,
         ⟨(some 23), .bin (.str .add) (.t 22) (.c (.str [32])), (some (20, true)), [22, 20]⟩,
         ⟨(some 24), .call 63 [(.c (.str [32, 97, 110, 100, 32, 98, 101, 103, 105, 110, 32, 101, 108, 115, 101, 32, 101, 110, 100, 32, 101, 120, 99, 101, 112, 116, 105, 111, 110, 32, 102, 97, 108, 115, 101, 32, 102, 117, 110, 32, 105, 102, 32, 105, 110, 32, 108, 101, 116, 32, 109, 97, 116, 99, 104, 32, 109, 111, 100, 32, 111, 102, 32, 114, 97, 105, 115, 101, 32, 114, 101, 99, 32, 116, 104, 101, 110, 32, 116, 114, 117, 101, 32, 116, 114, 121, 32, 116, 121, 112, 101, 32, 119, 105, 116, 104, 32])), (.t 23)], (some (20, true)), [23, 20]⟩,
         ⟨(some 25), .pick (.t 20) (.t 24) (.c (.bool false)), none, [20, 24]⟩,
         ⟨(some 17), .mv (.t 25), none, [25]⟩])
      (RC.cond (.t 17)
       (RC.seq (RC.reg [⟨(some 26), .mv (.t 5), none, [5]⟩,
           ⟨(some 27), .build [(.int .i64 0), (.int .i64 0), (.int .i64 0), (.str [])] [(0, 1, (.c (.int .i64 6))), (3, 1, (.t 26))], none, [26]⟩,
           ⟨none, .st 4 (.t 4) (.t 27), none, [4, 27]⟩])
        (RC.ret))
       (RC.seq (RC.reg [⟨(some 29), .mv (.t 5), none, [5]⟩,
           ⟨(some 30), .len .str (.t 29), none, [29]⟩,
           ⟨(some 31), .bin (.int .gtr) (.t 30) (.c (.int .i64 64)), none, [30]⟩,
           ⟨(some 28), .mv (.t 31), none, [31]⟩])
        (RC.cond (.t 28)
         (RC.reg [⟨(some 32), .mv (.t 0), none, [0]⟩,
            ⟨(some 33), .nilck (.t 32), none, [32]⟩,
            ⟨(some 34), .fa 2 (.t 33), none, [33]⟩,
            ⟨none, .st 1 (.t 34) (.c (.int .i64 255)), none, [34]⟩])
         (RC.skip))))))))
  (RC.seq (RC.reg [⟨(some 35), .mv (.t 1), none, [1]⟩,
     ⟨(some 36), .mv (.t 5), none, [5]⟩,
     ⟨(some 37), .build [(.int .i64 0), (.int .i64 0), (.int .i64 0), (.str [])] [(0, 1, (.t 35)), (3, 1, (.t 36))], none, [35, 36]⟩,
     ⟨none, .st 4 (.t 4) (.t 37), none, [4, 37]⟩])
  (RC.ret))))
theorem c48_ok : resK Tryd.prog Tryd.f48.ntmps (Tryd.f48.body.getD .skip) = c48 := by kernel_rfl
theorem c48_res : resR Tryd.prog Tryd.f48.ntmps Tryd.f48.results.toList = [.cn 4 4] := by kernel_rfl
theorem c48_ctr {args : List V} {h : Heap} {K : V → Heap → Prop} (hl : Nat.ble args.length 38 = true) (H : wpC Tryd.prog c48 (RF.ofL args) h fun e r h' => e.ends ∧ ∃ vs, evR r h' [.cn 4 4] = some vs ∧ K (oneOf vs) h') : Ctr Tryd.prog 48 args h K :=
  ctr_of_wp follows namesOk Tryd.func48 (c := Tryd.f48.body.getD .skip) (by kernel_rfl) (by kernel_rfl) hl c48_ok c48_res H

/-- gimlet/lex.great -/
def c49 : RC :=
  RC.seq (RC.reg [⟨(some 2), .mv (.c (.bool false)), none, []⟩])
  (RC.seq (RC.reg [⟨(some 3), .mv (.t 0), none, [0]⟩,
     ⟨(some 4), .bin (.int .geq) (.t 3) (.c (.int .u8 65)), none, [3]⟩,
     ⟨(some 5), .mv (.t 4), none, [4]⟩,
     ⟨(some 6), .mv (.t 0), (some (5, true)), [0, 5]⟩,
     ⟨(some 7), .bin (.int .leq) (.t 6) (.c (.int .u8 90)), (some (5, true)), [6, 5]⟩,
     ⟨(some 8), .pick (.t 5) (.t 7) (.c (.bool false)), none, [5, 7]⟩,
     ⟨(some 2), .mv (.t 8), none, [8]⟩])
  (RC.ret))
theorem c49_ok : resK Tryd.prog Tryd.f49.ntmps (Tryd.f49.body.getD .skip) = c49 := by kernel_rfl
theorem c49_res : resR Tryd.prog Tryd.f49.ntmps Tryd.f49.results.toList = [.t 2] := by kernel_rfl
theorem c49_ctr {args : List V} {h : Heap} {K : V → Heap → Prop} (hl : Nat.ble args.length 9 = true) (H : wpC Tryd.prog c49 (RF.ofL args) h fun e r h' => e.ends ∧ ∃ vs, evR r h' [.t 2] = some vs ∧ K (oneOf vs) h') : Ctr Tryd.prog 49 args h K :=
  ctr_of_wp follows namesOk Tryd.func49 (c := Tryd.f49.body.getD .skip) (by kernel_rfl) (by kernel_rfl) hl c49_ok c49_res H

/-- gimlet/lex.signs -/
def c50 : RC :=
  RC.seq (RC.reg [⟨(some 0), .mv (.c .nilslice), none, []⟩])
  (RC.seq (RC.reg [⟨(some 1), .bsl 17 1 [(.str [])] [(0, 1, (.c (.str [59, 59]))), (1, 1, (.c (.str [58, 61]))), (2, 1, (.c (.str [45, 62]))), (3, 1, (.c (.str [60, 61]))), (4, 1, (.c (.str [59]))), (5, 1, (.c (.str [40]))), (6, 1, (.c (.str [41]))), (7, 1, (.c (.str [44]))), (8, 1, (.c (.str [61]))), (9, 1, (.c (.str [60]))), (10, 1, (.c (.str [43]))), (11, 1, (.c (.str [45]))), (12, 1, (.c (.str [42]))), (13, 1, (.c (.str [47]))), (14, 1, (.c (.str [124]))), (15, 1, (.c (.str [33]))), (16, 1, (.c (.str [95])))], none, []⟩,
     ⟨(some 0), .mv (.t 1), none, [1]⟩])
  (RC.ret))
theorem c50_ok : resK Tryd.prog Tryd.f50.ntmps (Tryd.f50.body.getD .skip) = c50 := by kernel_rfl
theorem c50_res : resR Tryd.prog Tryd.f50.ntmps Tryd.f50.results.toList = [.t 0] := by kernel_rfl
theorem c50_ctr {args : List V} {h : Heap} {K : V → Heap → Prop} (hl : Nat.ble args.length 2 = true) (H : wpC Tryd.prog c50 (RF.ofL args) h fun e r h' => e.ends ∧ ∃ vs, evR r h' [.t 0] = some vs ∧ K (oneOf vs) h') : Ctr Tryd.prog 50 args h K :=
  ctr_of_wp follows namesOk Tryd.func50 (c := Tryd.f50.body.getD .skip) (by kernel_rfl) (by kernel_rfl) hl c50_ok c50_res H

/-- gimlet/lex.named -/
def c62 : RC :=
  RC.seq (RC.reg [⟨(some 4), .mv (.c (.bool false)), none, []⟩])
  (RC.seq (RC.seq (RC.reg [⟨(some 5), .mv (.t 1), none, [1]⟩,
      ⟨(some 6), .bin (.str .eql) (.t 5) (.c (.str [])), none, [5]⟩,
      ⟨(some 7), .mv (.t 6), none, [6]⟩,
      ⟨(some 8), .mv (.t 1), (some (7, false)), [1, 7]⟩,
      ⟨(some 9), .len .str (.t 8), (some (7, false)), [8, 7]⟩,
      ⟨(some 10), .bin (.int .gtr) (.t 9) (.c (.int .i64 64)), (some (7, false)), [9, 7]⟩,
      ⟨(some 11), .pick (.t 7) (.c (.bool true)) (.t 10), none, [7, 10]⟩,
      ⟨(some 12), .mv (.t 11), none, [11]⟩,
      ⟨(some 13), .mv (.t 1), (some (12, false)), [1, 12]⟩,
      ⟨(some 14), .cv .bytes (.t 13), (some (12, false)), [13, 12]⟩,
      ⟨(some 15), .call 78 [(.t 14), (.c (.func 79 []))], (some (12, false)), [14, 12]⟩,
      ⟨(some 16), .pick (.t 12) (.c (.bool true)) (.t 15), none, [12, 15]⟩])
   (RC.cond (.t 16)
    (RC.seq (RC.reg [⟨(some 4), .mv (.c (.bool false)), none, []⟩])
     (RC.ret))
    (RC.skip)))
  (RC.seq (RC.seq (RC.reg [⟨(some 17), .mv (.t 0), none, [0]⟩])
   (RC.block 0 (RC.seq (RC.reg [⟨(some 19), .bin (.int .eql) (.t 17) (.c (.int .i64 3)), none, [17]⟩,
       ⟨(some 18), .mv (.t 19), none, [19]⟩])
    (RC.cond (.t 18)
     (RC.seq (RC.reg [⟨(some 20), .mv (.t 1), none, [1]⟩,
         ⟨(some 21), .ixs (.t 20) (.c (.int .i64 0)), none, [20]⟩,
         ⟨(some 22), .call 47 [(.t 21)], none, [21]⟩,
         ⟨(some 23), .mv (.t 22), none, [22]⟩,
         ⟨(some 24), .mv (.t 1), (some (23, false)), [1, 23]⟩,
         ⟨(some 25), .ixs (.t 24) (.c (.int .i64 0)), (some (23, false)), [24, 23]⟩,
         ⟨(some 26), .bin (.int .eql) (.t 25) (.c (.int .u8 95)), (some (23, false)), [25, 23]⟩,
         ⟨(some 27), .pick (.t 23) (.c (.bool true)) (.t 26), none, [23, 26]⟩,
         ⟨(some 28), .mv (.t 27), none, [27]⟩,
         ⟨(some 29), .mv (.t 1), (some (28, true)), [1, 28]⟩,
         ⟨(some 30), .bin (.str .neq) (.t 29) (.c (.str [95])), (some (28, true)), [29, 28]⟩,
         ⟨(some 31), .pick (.t 28) (.t 30) (.c (.bool false)), none, [28, 30]⟩,
         ⟨(some 32), .mv (.t 31), none, [31]⟩,
         ⟨(some 33), .mv (.t 1), (some (32, true)), [1, 32]⟩,
         ⟨(some 34), .bin (.str .add) (.c (.str [32])) (.t 33), (some (32, true)), [33, 32]⟩,
         ⟨(some 35), .bin (.str .add) (.t 34) (.c (.str [32])), (some (32, true)), [34, 32]⟩,
         ⟨(some 36), .call 63 [(.c (.str [32, 97, 110, 100, 32, 98, 101, 103, 105, 110, 32, 101, 108, 115, 101, 32, 101, 110, 100, 32, 101, 120, 99, 101, 112, 116, 105, 111, 110, 32, 102, 97, 108, 115, 101, 32, 102, 117, 110, 32, 105, 102, 32, 105, 110, 32, 108, 101, 116, 32, 109, 97, 116, 99, 104, 32, 109, 111, 100, 32, 111, 102, 32, 114, 97, 105, 115, 101, 32, 114, 101, 99, 32, 116, 104, 101, 110, 32, 116, 114, 117, 101, 32, 116, 114, 121, 32, 116, 121, 112, 101, 32, 119, 105, 116, 104, 32])), (.t 35)], (some (32, true)), [35, 32]⟩,
         ⟨(some 37), .un .not (.t 36), (some (32, true)), [36, 32]⟩,
         ⟨(some 38), .pick (.t 32) (.t 37) (.c (.bool false)), none, [32, 37]⟩,
         ⟨(some 4), .mv (.t 38), none, [38]⟩])
      (RC.ret))
     (RC.seq (RC.reg [⟨(some 40), .bin (.int .eql) (.t 17) (.c (.int .i64 4)), none, [17]⟩,
         ⟨(some 39), .mv (.t 40), none, [40]⟩])
      (RC.cond (.t 39)
       (RC.seq (RC.reg [⟨(some 41), .mv (.t 1), none, [1]⟩,
           ⟨(some 42), .ixs (.t 41) (.c (.int .i64 0)), none, [41]⟩,
           ⟨(some 43), .call 49 [(.t 42)], none, [42]⟩,
           ⟨(some 4), .mv (.t 43), none, [43]⟩])
        (RC.ret))
       (RC.skip)))))))
  (RC.seq (RC.reg [⟨(some 44), .mv (.t 1), none, [1]⟩,
     ⟨(some 45), .ixs (.t 44) (.c (.int .i64 0)), none, [44]⟩,
     ⟨(some 46), .call 47 [(.t 45)], none, [45]⟩,
     ⟨(some 4), .mv (.t 46), none, [46]⟩])
  (RC.ret))))
theorem c62_ok : resK Tryd.prog Tryd.f62.ntmps (Tryd.f62.body.getD .skip) = c62 := by kernel_rfl
theorem c62_res : resR Tryd.prog Tryd.f62.ntmps Tryd.f62.results.toList = [.t 4] := by kernel_rfl
theorem c62_ctr {args : List V} {h : Heap} {K : V → Heap → Prop} (hl : Nat.ble args.length 47 = true) (H : wpC Tryd.prog c62 (RF.ofL args) h fun e r h' => e.ends ∧ ∃ vs, evR r h' [.t 4] = some vs ∧ K (oneOf vs) h') : Ctr Tryd.prog 62 args h K :=
  ctr_of_wp follows namesOk Tryd.func62 (c := Tryd.f62.body.getD .skip) (by kernel_rfl) (by kernel_rfl) hl c62_ok c62_res H

/-- strings.Contains -/
def c63 : RC :=
  RC.seq (RC.reg [⟨(some 4), .mv (.c (.bool false)), none, []⟩])
  (RC.seq (RC.reg [⟨(some 5), .mv (.t 0), none, [0]⟩,
     ⟨(some 6), .mv (.t 1), none, [1]⟩,
     ⟨(some 7), .call 80 [(.t 5), (.t 6)], none, [5, 6]⟩,
     ⟨(some 8), .bin (.int .geq) (.t 7) (.c (.int .i64 0)), none, [7]⟩,
     ⟨(some 4), .mv (.t 8), none, [8]⟩])
  (RC.ret))
theorem c63_ok : resK Tryd.prog Tryd.f63.ntmps (Tryd.f63.body.getD .skip) = c63 := by kernel_rfl
theorem c63_res : resR Tryd.prog Tryd.f63.ntmps Tryd.f63.results.toList = [.t 4] := by kernel_rfl
theorem c63_ctr {args : List V} {h : Heap} {K : V → Heap → Prop} (hl : Nat.ble args.length 9 = true) (H : wpC Tryd.prog c63 (RF.ofL args) h fun e r h' => e.ends ∧ ∃ vs, evR r h' [.t 4] = some vs ∧ K (oneOf vs) h') : Ctr Tryd.prog 63 args h K :=
  ctr_of_wp follows namesOk Tryd.func63 (c := Tryd.f63.body.getD .skip) (by kernel_rfl) (by kernel_rfl) hl c63_ok c63_res H

/-- slices.Contains[[]string,string] -/
def c64 : RC :=
  RC.seq (RC.reg [⟨(some 4), .mv (.c (.bool false)), none, []⟩])
  (RC.seq (RC.reg [⟨(some 5), .mv (.t 0), none, [0]⟩,
     ⟨(some 6), .mv (.t 1), none, [1]⟩,
     ⟨(some 7), .call 81 [(.t 5), (.t 6)], none, [5, 6]⟩,
     ⟨(some 8), .bin (.int .geq) (.t 7) (.c (.int .i64 0)), none, [7]⟩,
     ⟨(some 4), .mv (.t 8), none, [8]⟩])
  (RC.ret))
theorem c64_ok : resK Tryd.prog Tryd.f64.ntmps (Tryd.f64.body.getD .skip) = c64 := by kernel_rfl
theorem c64_res : resR Tryd.prog Tryd.f64.ntmps Tryd.f64.results.toList = [.t 4] := by kernel_rfl
theorem c64_ctr {args : List V} {h : Heap} {K : V → Heap → Prop} (hl : Nat.ble args.length 9 = true) (H : wpC Tryd.prog c64 (RF.ofL args) h fun e r h' => e.ends ∧ ∃ vs, evR r h' [.t 4] = some vs ∧ K (oneOf vs) h') : Ctr Tryd.prog 64 args h K :=
  ctr_of_wp follows namesOk Tryd.func64 (c := Tryd.f64.body.getD .skip) (by kernel_rfl) (by kernel_rfl) hl c64_ok c64_res H

/-- internal/stringslite.HasPrefix -/
def c73 : RC :=
  RC.seq (RC.reg [⟨(some 4), .mv (.c (.bool false)), none, []⟩])
  (RC.seq (RC.reg [⟨(some 5), .mv (.t 0), none, [0]⟩,
     ⟨(some 6), .len .str (.t 5), none, [5]⟩,
     ⟨(some 7), .mv (.t 1), none, [1]⟩,
     ⟨(some 8), .len .str (.t 7), none, [7]⟩,
     ⟨(some 9), .bin (.int .geq) (.t 6) (.t 8), none, [6, 8]⟩,
     ⟨(some 10), .mv (.t 9), none, [9]⟩,
     ⟨(some 11), .mv (.t 0), (some (10, true)), [0, 10]⟩,
     ⟨(some 12), .mv (.t 1), (some (10, true)), [1, 10]⟩,
     ⟨(some 13), .len .str (.t 12), (some (10, true)), [12, 10]⟩,
     ⟨(some 14), .slstr (.t 11) none (some (.t 13)) none, (some (10, true)), [11, 13, 10]⟩,
     ⟨(some 15), .mv (.t 1), (some (10, true)), [1, 10]⟩,
     ⟨(some 16), .bin (.str .eql) (.t 14) (.t 15), (some (10, true)), [14, 15, 10]⟩,
     ⟨(some 17), .pick (.t 10) (.t 16) (.c (.bool false)), none, [10, 16]⟩,
     ⟨(some 4), .mv (.t 17), none, [17]⟩])
  (RC.ret))
theorem c73_ok : resK Tryd.prog Tryd.f73.ntmps (Tryd.f73.body.getD .skip) = c73 := by kernel_rfl
theorem c73_res : resR Tryd.prog Tryd.f73.ntmps Tryd.f73.results.toList = [.t 4] := by kernel_rfl
theorem c73_ctr {args : List V} {h : Heap} {K : V → Heap → Prop} (hl : Nat.ble args.length 18 = true) (H : wpC Tryd.prog c73 (RF.ofL args) h fun e r h' => e.ends ∧ ∃ vs, evR r h' [.t 4] = some vs ∧ K (oneOf vs) h') : Ctr Tryd.prog 73 args h K :=
  ctr_of_wp follows namesOk Tryd.func73 (c := Tryd.f73.body.getD .skip) (by kernel_rfl) (by kernel_rfl) hl c73_ok c73_res H

/-- (*gimlet/lex.scanner).run -/
def c75l1 : RC :=
  RC.seq (RC.seq (RC.draw [⟨(some 10), .mv (.t 0), none, [0]⟩,
      ⟨(some 11), .nilck (.t 10), none, [10]⟩,
      ⟨(some 12), .fa 1 (.t 11), none, [11]⟩,
      ⟨(some 13), .ld1 (.t 12), none, [12]⟩,
      ⟨(some 14), .mv (.t 0), none, [0]⟩,
      ⟨(some 15), .nilck (.t 14), none, [14]⟩,
      ⟨(some 16), .fa 0 (.t 15), none, [15]⟩,
      ⟨(some 17), .ld1 (.t 16), none, [16]⟩,
      ⟨(some 18), .len .str (.t 17), none, [17]⟩,
      ⟨(some 19), .bin (.int .lss) (.t 13) (.t 18), none, [13, 18]⟩,
      ⟨(some 20), .mv (.t 19), none, [19]⟩,
      ⟨(some 21), .mv (.t 1), (some (20, true)), [1, 20]⟩,
      ⟨(some 22), .mv (.t 0), (some (20, true)), [0, 20]⟩,
      ⟨(some 23), .nilck (.t 22), (some (20, true)), [22, 20]⟩,
      ⟨(some 24), .fa 0 (.t 23), (some (20, true)), [23, 20]⟩,
      ⟨(some 25), .ld1 (.t 24), (some (20, true)), [24, 20]⟩,
      ⟨(some 26), .mv (.t 0), (some (20, true)), [0, 20]⟩,
      ⟨(some 27), .nilck (.t 26), (some (20, true)), [26, 20]⟩,
      ⟨(some 28), .fa 1 (.t 27), (some (20, true)), [27, 20]⟩,
      ⟨(some 29), .ld1 (.t 28), (some (20, true)), [28, 20]⟩,
      ⟨(some 30), .ixs (.t 25) (.t 29), (some (20, true)), [25, 29, 20]⟩,
      ⟨(some 31), .callv (.t 21) [(.t 30)], (some (20, true)), [21, 30, 20]⟩,
      ⟨(some 32), .pick (.t 20) (.t 31) (.c (.bool false)), none, [20, 31]⟩] [(3, [21]), (7, [21]), (15, [21]), (19, [21])])
   (RC.cond (.t 32)
    (RC.skip)
    (RC.exit 0)))
  (RC.block 1 (RC.reg [⟨(some 33), .mv (.t 0), none, [0]⟩,
     ⟨(some 34), .nilck (.t 33), none, [33]⟩,
     ⟨(some 35), .fa 1 (.t 34), none, [34]⟩,
     ⟨(some 36), .ld1 (.t 35), none, [35]⟩,
     ⟨(some 37), .bin (.int .add) (.t 36) (.c (.int .i64 1)), none, [36]⟩,
     ⟨(some 38), .nilck (.t 33), none, [33]⟩,
     ⟨(some 39), .fa 1 (.t 38), none, [38]⟩,
     ⟨none, .st 1 (.t 39) (.t 37), none, [39, 37]⟩]))
def c75 : RC :=
  RC.seq (RC.reg [⟨(some 4), .mv (.c (.str [])), none, []⟩])
  (RC.seq (RC.reg [⟨(some 6), .mv (.t 0), none, [0]⟩,
     ⟨(some 7), .nilck (.t 6), none, [6]⟩,
     ⟨(some 8), .fa 1 (.t 7), none, [7]⟩,
     ⟨(some 9), .ld1 (.t 8), none, [8]⟩,
     ⟨(some 5), .mv (.t 9), none, [9]⟩])
  (RC.seq (RC.block 0 (RC.loop c75l1))
  (RC.seq (RC.draw [⟨(some 40), .mv (.t 0), none, [0]⟩,
     ⟨(some 41), .nilck (.t 40), none, [40]⟩,
     ⟨(some 42), .fa 0 (.t 41), none, [41]⟩,
     ⟨(some 43), .ld1 (.t 42), none, [42]⟩,
     ⟨(some 44), .mv (.t 5), none, [5]⟩,
     ⟨(some 45), .mv (.t 0), none, [0]⟩,
     ⟨(some 46), .nilck (.t 45), none, [45]⟩,
     ⟨(some 47), .fa 1 (.t 46), none, [46]⟩,
     ⟨(some 48), .ld1 (.t 47), none, [47]⟩,
     ⟨(some 49), .slstr (.t 43) (some (.t 44)) (some (.t 48)) none, none, [43, 44, 48]⟩,
     ⟨(some 4), .mv (.t 49), none, [49]⟩] [])
  (RC.ret))))
theorem c75_ok : resK Tryd.prog Tryd.f75.ntmps (Tryd.f75.body.getD .skip) = c75 := by kernel_rfl
theorem c75_res : resR Tryd.prog Tryd.f75.ntmps Tryd.f75.results.toList = [.t 4] := by kernel_rfl
theorem c75_ctr {args : List V} {h : Heap} {K : V → Heap → Prop} (hl : Nat.ble args.length 50 = true) (H : wpC Tryd.prog c75 (RF.ofL args) h fun e r h' => e.ends ∧ ∃ vs, evR r h' [.t 4] = some vs ∧ K (oneOf vs) h') : Ctr Tryd.prog 75 args h K :=
  ctr_of_wp follows namesOk Tryd.func75 (c := Tryd.f75.body.getD .skip) (by kernel_rfl) (by kernel_rfl) hl c75_ok c75_res H

/-- (*gimlet/lex.scanner).escape -/
def c76 : RC :=
  RC.seq (RC.reg [⟨(some 2), .mv (.c (.int .u8 0)), none, []⟩])
  (RC.seq (RC.reg [⟨(some 7), .mv (.t 0), none, [0]⟩,
     ⟨(some 8), .nilck (.t 7), none, [7]⟩,
     ⟨(some 9), .fa 1 (.t 8), none, [8]⟩,
     ⟨(some 10), .ld1 (.t 9), none, [9]⟩,
     ⟨(some 11), .bin (.int .add) (.t 10) (.c (.int .i64 1)), none, [10]⟩,
     ⟨(some 12), .nilck (.t 7), none, [7]⟩,
     ⟨(some 13), .fa 1 (.t 12), none, [12]⟩,
     ⟨none, .st 1 (.t 13) (.t 11), none, [13, 11]⟩])
  (RC.seq (RC.draw [⟨(some 14), .mv (.t 0), none, [0]⟩,
     ⟨(some 15), .nilck (.t 14), none, [14]⟩,
     ⟨(some 16), .fa 0 (.t 15), none, [15]⟩,
     ⟨(some 17), .ld1 (.t 16), none, [16]⟩,
     ⟨(some 18), .mv (.t 0), none, [0]⟩,
     ⟨(some 19), .nilck (.t 18), none, [18]⟩,
     ⟨(some 20), .fa 1 (.t 19), none, [19]⟩,
     ⟨(some 21), .ld1 (.t 20), none, [20]⟩,
     ⟨(some 22), .slstr (.t 17) (some (.t 21)) none none, none, [17, 21]⟩,
     ⟨(some 3), .mv (.t 22), none, [22]⟩] [])
  (RC.seq (RC.seq (RC.reg [⟨(some 23), .mv (.t 3), none, [3]⟩,
      ⟨(some 24), .bin (.str .neq) (.t 23) (.c (.str [])), none, [23]⟩])
   (RC.cond (.t 24)
    (RC.seq (RC.reg [⟨(some 25), .mv (.t 3), none, [3]⟩,
        ⟨(some 26), .ixs (.t 25) (.c (.int .i64 0)), none, [25]⟩,
        ⟨(some 27), .call 23 [(.c (.str [110, 116, 34, 92])), (.t 26)], none, [26]⟩,
        ⟨(some 4), .mv (.t 27), none, [27]⟩])
     (RC.seq (RC.reg [⟨(some 28), .mv (.t 4), none, [4]⟩,
        ⟨(some 29), .bin (.int .geq) (.t 28) (.c (.int .i64 0)), none, [28]⟩])
     (RC.cond (.t 29)
      (RC.seq (RC.reg [⟨(some 30), .mv (.t 0), none, [0]⟩,
          ⟨(some 31), .nilck (.t 30), none, [30]⟩,
          ⟨(some 32), .fa 1 (.t 31), none, [31]⟩,
          ⟨(some 33), .ld1 (.t 32), none, [32]⟩,
          ⟨(some 34), .bin (.int .add) (.t 33) (.c (.int .i64 1)), none, [33]⟩,
          ⟨(some 35), .nilck (.t 30), none, [30]⟩,
          ⟨(some 36), .fa 1 (.t 35), none, [35]⟩,
          ⟨none, .st 1 (.t 36) (.t 34), none, [36, 34]⟩])
       (RC.seq (RC.reg [⟨(some 37), .mv (.t 4), none, [4]⟩,
          ⟨(some 38), .ixs (.c (.str [10, 9, 34, 92])) (.t 37), none, [37]⟩,
          ⟨(some 2), .mv (.t 38), none, [38]⟩])
       (RC.ret)))
      (RC.skip))))
    (RC.skip)))
  (RC.seq (RC.seq (RC.reg [⟨(some 39), .mv (.t 3), none, [3]⟩,
      ⟨(some 40), .len .str (.t 39), none, [39]⟩,
      ⟨(some 41), .bin (.int .geq) (.t 40) (.c (.int .i64 3)), none, [40]⟩,
      ⟨(some 42), .mv (.t 41), none, [41]⟩,
      ⟨(some 43), .mv (.t 3), (some (42, true)), [3, 42]⟩,
      ⟨(some 44), .ixs (.t 43) (.c (.int .i64 0)), (some (42, true)), [43, 42]⟩,
      ⟨(some 45), .call 44 [(.t 44)], (some (42, true)), [44, 42]⟩,
      ⟨(some 46), .pick (.t 42) (.t 45) (.c (.bool false)), none, [42, 45]⟩,
      ⟨(some 47), .mv (.t 46), none, [46]⟩,
      ⟨(some 48), .mv (.t 3), (some (47, true)), [3, 47]⟩,
      ⟨(some 49), .ixs (.t 48) (.c (.int .i64 1)), (some (47, true)), [48, 47]⟩,
      ⟨(some 50), .call 44 [(.t 49)], (some (47, true)), [49, 47]⟩,
      ⟨(some 51), .pick (.t 47) (.t 50) (.c (.bool false)), none, [47, 50]⟩,
      ⟨(some 52), .mv (.t 51), none, [51]⟩,
      ⟨(some 53), .mv (.t 3), (some (52, true)), [3, 52]⟩,
      ⟨(some 54), .ixs (.t 53) (.c (.int .i64 2)), (some (52, true)), [53, 52]⟩,
      ⟨(some 55), .call 44 [(.t 54)], (some (52, true)), [54, 52]⟩,
      ⟨(some 56), .pick (.t 52) (.t 55) (.c (.bool false)), none, [52, 55]⟩])
   (RC.cond (.t 56)
    (RC.seq (RC.reg [⟨(some 58), .mv (.t 3), none, [3]⟩,
        ⟨(some 59), .slstr (.t 58) none (some (.c (.int .i64 3))) none, none, [58]⟩,
        ⟨(some 60), .call 87 [(.t 59)], none, [59]⟩,
        ⟨(some 57), .mv (.t 60), none, [60]⟩,
        ⟨(some 61), .ext (.t 57) 0, none, [57]⟩,
        ⟨(some 62), .ext (.t 57) 1, none, [57]⟩,
        ⟨(some 5), .mv (.t 61), none, [61]⟩,
        ⟨(some 6), .mv (.t 62), none, [62]⟩])
     (RC.seq (RC.reg [⟨(some 63), .mv (.t 5), none, [5]⟩,
        ⟨(some 64), .bin (.int .lss) (.t 63) (.c (.int .i64 256)), none, [63]⟩])
     (RC.cond (.t 64)
      (RC.seq (RC.reg [⟨(some 65), .mv (.t 0), none, [0]⟩,
          ⟨(some 66), .nilck (.t 65), none, [65]⟩,
          ⟨(some 67), .fa 1 (.t 66), none, [66]⟩,
          ⟨(some 68), .ld1 (.t 67), none, [67]⟩,
          ⟨(some 69), .bin (.int .add) (.t 68) (.c (.int .i64 3)), none, [68]⟩,
          ⟨(some 70), .nilck (.t 65), none, [65]⟩,
          ⟨(some 71), .fa 1 (.t 70), none, [70]⟩,
          ⟨none, .st 1 (.t 71) (.t 69), none, [71, 69]⟩])
       (RC.seq (RC.reg [⟨(some 72), .mv (.t 5), none, [5]⟩,
          ⟨(some 73), .cv (.int .u8) (.t 72), none, [72]⟩,
          ⟨(some 2), .mv (.t 73), none, [73]⟩])
       (RC.ret)))
      (RC.skip))))
    (RC.skip)))
  (RC.seq (RC.reg [⟨(some 74), .mv (.t 0), none, [0]⟩,
     ⟨(some 75), .nilck (.t 74), none, [74]⟩,
     ⟨(some 76), .fa 2 (.t 75), none, [75]⟩,
     ⟨none, .st 1 (.t 76) (.c (.int .i64 252)), none, [76]⟩])
  (RC.seq (RC.reg [⟨(some 2), .mv (.c (.int .u8 0)), none, []⟩])
  (RC.ret)))))))
theorem c76_ok : resK Tryd.prog Tryd.f76.ntmps (Tryd.f76.body.getD .skip) = c76 := by kernel_rfl
theorem c76_res : resR Tryd.prog Tryd.f76.ntmps Tryd.f76.results.toList = [.t 2] := by kernel_rfl
theorem c76_ctr {args : List V} {h : Heap} {K : V → Heap → Prop} (hl : Nat.ble args.length 77 = true) (H : wpC Tryd.prog c76 (RF.ofL args) h fun e r h' => e.ends ∧ ∃ vs, evR r h' [.t 2] = some vs ∧ K (oneOf vs) h') : Ctr Tryd.prog 76 args h K :=
  ctr_of_wp follows namesOk Tryd.func76 (c := Tryd.f76.body.getD .skip) (by kernel_rfl) (by kernel_rfl) hl c76_ok c76_res H

/-- gimlet/lex.letter -/
def c77 : RC :=
  RC.seq (RC.reg [⟨(some 2), .mv (.c (.bool false)), none, []⟩])
  (RC.seq (RC.reg [⟨(some 3), .mv (.t 0), none, [0]⟩,
     ⟨(some 4), .call 44 [(.t 3)], none, [3]⟩,
     ⟨(some 5), .mv (.t 4), none, [4]⟩,
     ⟨(some 6), .mv (.t 0), (some (5, false)), [0, 5]⟩,
     ⟨(some 7), .call 47 [(.t 6)], (some (5, false)), [6, 5]⟩,
     ⟨(some 8), .pick (.t 5) (.c (.bool true)) (.t 7), none, [5, 7]⟩,
     ⟨(some 9), .mv (.t 8), none, [8]⟩,
     ⟨(some 10), .mv (.t 0), (some (9, false)), [0, 9]⟩,
     ⟨(some 11), .call 49 [(.t 10)], (some (9, false)), [10, 9]⟩,
     ⟨(some 12), .pick (.t 9) (.c (.bool true)) (.t 11), none, [9, 11]⟩,
     ⟨(some 13), .mv (.t 12), none, [12]⟩,
     ⟨(some 14), .mv (.t 0), (some (13, false)), [0, 13]⟩,
     ⟨(some 15), .bin (.int .eql) (.t 14) (.c (.int .u8 95)), (some (13, false)), [14, 13]⟩,
     ⟨(some 16), .pick (.t 13) (.c (.bool true)) (.t 15), none, [13, 15]⟩,
     ⟨(some 17), .mv (.t 16), none, [16]⟩,
     ⟨(some 18), .mv (.t 0), (some (17, false)), [0, 17]⟩,
     ⟨(some 19), .bin (.int .eql) (.t 18) (.c (.int .u8 39)), (some (17, false)), [18, 17]⟩,
     ⟨(some 20), .pick (.t 17) (.c (.bool true)) (.t 19), none, [17, 19]⟩,
     ⟨(some 2), .mv (.t 20), none, [20]⟩])
  (RC.ret))
theorem c77_ok : resK Tryd.prog Tryd.f77.ntmps (Tryd.f77.body.getD .skip) = c77 := by kernel_rfl
theorem c77_res : resR Tryd.prog Tryd.f77.ntmps Tryd.f77.results.toList = [.t 2] := by kernel_rfl
theorem c77_ctr {args : List V} {h : Heap} {K : V → Heap → Prop} (hl : Nat.ble args.length 21 = true) (H : wpC Tryd.prog c77 (RF.ofL args) h fun e r h' => e.ends ∧ ∃ vs, evR r h' [.t 2] = some vs ∧ K (oneOf vs) h') : Ctr Tryd.prog 77 args h K :=
  ctr_of_wp follows namesOk Tryd.func77 (c := Tryd.f77.body.getD .skip) (by kernel_rfl) (by kernel_rfl) hl c77_ok c77_res H

/-- slices.ContainsFunc[[]byte,byte] -/
def c78 : RC :=
  RC.seq (RC.reg [⟨(some 4), .mv (.c (.bool false)), none, []⟩])
  (RC.seq (RC.reg [⟨(some 5), .mv (.t 0), none, [0]⟩,
     ⟨(some 6), .mv (.t 1), none, [1]⟩,
     ⟨(some 7), .call 88 [(.t 5), (.t 6)], none, [5, 6]⟩,
     ⟨(some 8), .bin (.int .geq) (.t 7) (.c (.int .i64 0)), none, [7]⟩,
     ⟨(some 4), .mv (.t 8), none, [8]⟩])
  (RC.ret))
theorem c78_ok : resK Tryd.prog Tryd.f78.ntmps (Tryd.f78.body.getD .skip) = c78 := by kernel_rfl
theorem c78_res : resR Tryd.prog Tryd.f78.ntmps Tryd.f78.results.toList = [.t 4] := by kernel_rfl
theorem c78_ctr {args : List V} {h : Heap} {K : V → Heap → Prop} (hl : Nat.ble args.length 9 = true) (H : wpC Tryd.prog c78 (RF.ofL args) h fun e r h' => e.ends ∧ ∃ vs, evR r h' [.t 4] = some vs ∧ K (oneOf vs) h') : Ctr Tryd.prog 78 args h K :=
  ctr_of_wp follows namesOk Tryd.func78 (c := Tryd.f78.body.getD .skip) (by kernel_rfl) (by kernel_rfl) hl c78_ok c78_res H

/-- gimlet/lex.named$1 -/
def c79 : RC :=
  RC.seq (RC.reg [⟨(some 2), .mv (.c (.bool false)), none, []⟩])
  (RC.seq (RC.reg [⟨(some 3), .mv (.t 0), none, [0]⟩,
     ⟨(some 4), .call 77 [(.t 3)], none, [3]⟩,
     ⟨(some 5), .un .not (.t 4), none, [4]⟩,
     ⟨(some 2), .mv (.t 5), none, [5]⟩])
  (RC.ret))
theorem c79_ok : resK Tryd.prog Tryd.f79.ntmps (Tryd.f79.body.getD .skip) = c79 := by kernel_rfl
theorem c79_res : resR Tryd.prog Tryd.f79.ntmps Tryd.f79.results.toList = [.t 2] := by kernel_rfl
theorem c79_ctr {args : List V} {h : Heap} {K : V → Heap → Prop} (hl : Nat.ble args.length 6 = true) (H : wpC Tryd.prog c79 (RF.ofL args) h fun e r h' => e.ends ∧ ∃ vs, evR r h' [.t 2] = some vs ∧ K (oneOf vs) h') : Ctr Tryd.prog 79 args h K :=
  ctr_of_wp follows namesOk Tryd.func79 (c := Tryd.f79.body.getD .skip) (by kernel_rfl) (by kernel_rfl) hl c79_ok c79_res H

/-- strings.Index -/
def c80 : RC :=
  RC.seq (RC.reg [⟨(some 4), .mv (.c (.int .i64 0)), none, []⟩])
  (RC.seq (RC.reg [⟨(some 5), .mv (.t 0), none, [0]⟩,
     ⟨(some 6), .mv (.t 1), none, [1]⟩,
     ⟨(some 7), .call 89 [(.t 5), (.t 6)], none, [5, 6]⟩,
     ⟨(some 4), .mv (.t 7), none, [7]⟩])
  (RC.ret))
theorem c80_ok : resK Tryd.prog Tryd.f80.ntmps (Tryd.f80.body.getD .skip) = c80 := by kernel_rfl
theorem c80_res : resR Tryd.prog Tryd.f80.ntmps Tryd.f80.results.toList = [.t 4] := by kernel_rfl
theorem c80_ctr {args : List V} {h : Heap} {K : V → Heap → Prop} (hl : Nat.ble args.length 8 = true) (H : wpC Tryd.prog c80 (RF.ofL args) h fun e r h' => e.ends ∧ ∃ vs, evR r h' [.t 4] = some vs ∧ K (oneOf vs) h') : Ctr Tryd.prog 80 args h K :=
  ctr_of_wp follows namesOk Tryd.func80 (c := Tryd.f80.body.getD .skip) (by kernel_rfl) (by kernel_rfl) hl c80_ok c80_res H

/-- slices.Index[[]string,string] -/
def c81l1 : RC :=
  RC.seq (RC.reg [⟨(some 9), .bin (.int .lss) (.t 8) (.t 7), none, [8, 7]⟩])
  (RC.seq (RC.cond (.t 9)
    (RC.skip)
    (RC.exit 0))
  (RC.seq (RC.block 1 (RC.seq (RC.reg [⟨(some 10), .mv (.t 8), none, [8]⟩,
       ⟨(some 5), .mv (.t 10), none, [10]⟩])
    (RC.seq (RC.reg [⟨(some 11), .mv (.t 1), none, [1]⟩,
       ⟨(some 12), .mv (.t 0), none, [0]⟩,
       ⟨(some 13), .mv (.t 5), none, [5]⟩,
       ⟨(some 14), .ia 1 (.t 12) (.t 13), none, [12, 13]⟩,
       ⟨(some 15), .ld1 (.t 14), none, [14]⟩,
       ⟨(some 16), .bin (.str .eql) (.t 11) (.t 15), none, [11, 15]⟩])
    (RC.cond (.t 16)
     (RC.seq (RC.reg [⟨(some 17), .mv (.t 5), none, [5]⟩,
         ⟨(some 4), .mv (.t 17), none, [17]⟩])
      (RC.ret))
     (RC.skip)))))
  (RC.reg [⟨(some 18), .bin (.int .add) (.t 8) (.c (.int .i64 1)), none, [8]⟩,
    ⟨(some 8), .mv (.t 18), none, [18]⟩])))
def c81 : RC :=
  RC.seq (RC.reg [⟨(some 4), .mv (.c (.int .i64 0)), none, []⟩])
  (RC.seq (RC.seq (RC.reg [⟨(some 6), .mv (.t 0), none, [0]⟩,
      ⟨(some 7), .len .slice (.t 6), none, [6]⟩,
      ⟨(some 8), .mv (.c (.int .i64 0)), none, []⟩])
   (RC.block 0 (RC.loop c81l1)))
  (RC.seq (RC.reg [⟨(some 4), .mv (.c (.int .i64 (-1))), none, []⟩])
  (RC.ret)))
theorem c81_ok : resK Tryd.prog Tryd.f81.ntmps (Tryd.f81.body.getD .skip) = c81 := by kernel_rfl
theorem c81_res : resR Tryd.prog Tryd.f81.ntmps Tryd.f81.results.toList = [.t 4] := by kernel_rfl
theorem c81_ctr {args : List V} {h : Heap} {K : V → Heap → Prop} (hl : Nat.ble args.length 19 = true) (H : wpC Tryd.prog c81 (RF.ofL args) h fun e r h' => e.ends ∧ ∃ vs, evR r h' [.t 4] = some vs ∧ K (oneOf vs) h') : Ctr Tryd.prog 81 args h K :=
  ctr_of_wp follows namesOk Tryd.func81 (c := Tryd.f81.body.getD .skip) (by kernel_rfl) (by kernel_rfl) hl c81_ok c81_res H

/-- slices.IndexFunc[[]byte,byte] -/
def c88l1 : RC :=
  RC.seq (RC.reg [⟨(some 9), .bin (.int .lss) (.t 8) (.t 7), none, [8, 7]⟩])
  (RC.seq (RC.cond (.t 9)
    (RC.skip)
    (RC.exit 0))
  (RC.seq (RC.block 1 (RC.seq (RC.reg [⟨(some 10), .mv (.t 8), none, [8]⟩,
       ⟨(some 5), .mv (.t 10), none, [10]⟩])
    (RC.seq (RC.reg [⟨(some 11), .mv (.t 1), none, [1]⟩,
       ⟨(some 12), .mv (.t 0), none, [0]⟩,
       ⟨(some 13), .mv (.t 5), none, [5]⟩,
       ⟨(some 14), .ia 1 (.t 12) (.t 13), none, [12, 13]⟩,
       ⟨(some 15), .ld1 (.t 14), none, [14]⟩,
       ⟨(some 16), .callv (.t 11) [(.t 15)], none, [11, 15]⟩])
    (RC.cond (.t 16)
     (RC.seq (RC.reg [⟨(some 17), .mv (.t 5), none, [5]⟩,
         ⟨(some 4), .mv (.t 17), none, [17]⟩])
      (RC.ret))
     (RC.skip)))))
  (RC.reg [⟨(some 18), .bin (.int .add) (.t 8) (.c (.int .i64 1)), none, [8]⟩,
    ⟨(some 8), .mv (.t 18), none, [18]⟩])))
def c88 : RC :=
  RC.seq (RC.reg [⟨(some 4), .mv (.c (.int .i64 0)), none, []⟩])
  (RC.seq (RC.seq (RC.reg [⟨(some 6), .mv (.t 0), none, [0]⟩,
      ⟨(some 7), .len .slice (.t 6), none, [6]⟩,
      ⟨(some 8), .mv (.c (.int .i64 0)), none, []⟩])
   (RC.block 0 (RC.loop c88l1)))
  (RC.seq (RC.reg [⟨(some 4), .mv (.c (.int .i64 (-1))), none, []⟩])
  (RC.ret)))
theorem c88_ok : resK Tryd.prog Tryd.f88.ntmps (Tryd.f88.body.getD .skip) = c88 := by kernel_rfl
theorem c88_res : resR Tryd.prog Tryd.f88.ntmps Tryd.f88.results.toList = [.t 4] := by kernel_rfl
theorem c88_ctr {args : List V} {h : Heap} {K : V → Heap → Prop} (hl : Nat.ble args.length 19 = true) (H : wpC Tryd.prog c88 (RF.ofL args) h fun e r h' => e.ends ∧ ∃ vs, evR r h' [.t 4] = some vs ∧ K (oneOf vs) h') : Ctr Tryd.prog 88 args h K :=
  ctr_of_wp follows namesOk Tryd.func88 (c := Tryd.f88.body.getD .skip) (by kernel_rfl) (by kernel_rfl) hl c88_ok c88_res H

/-- internal/stringslite.Index -/
def c89l1 : RC :=
  RC.seq (RC.seq (RC.reg [⟨(some 57), .mv (.t 8), none, [8]⟩,
      ⟨(some 58), .mv (.t 9), none, [9]⟩,
      ⟨(some 59), .bin (.int .lss) (.t 57) (.t 58), none, [57, 58]⟩])
   (RC.cond (.t 59)
    (RC.skip)
    (RC.exit 1)))
  (RC.block 2 (RC.seq (RC.seq (RC.reg [⟨(some 60), .mv (.t 0), none, [0]⟩,
       ⟨(some 61), .mv (.t 8), none, [8]⟩,
       ⟨(some 62), .ixs (.t 60) (.t 61), none, [60, 61]⟩,
       ⟨(some 63), .mv (.t 6), none, [6]⟩,
       ⟨(some 64), .bin (.int .neq) (.t 62) (.t 63), none, [62, 63]⟩])
    (RC.cond (.t 64)
     (RC.seq (RC.reg [⟨(some 65), .mv (.t 0), none, [0]⟩,
         ⟨(some 66), .mv (.t 8), none, [8]⟩,
         ⟨(some 67), .bin (.int .add) (.t 66) (.c (.int .i64 1)), none, [66]⟩,
         ⟨(some 68), .mv (.t 9), none, [9]⟩,
         ⟨(some 69), .slstr (.t 65) (some (.t 67)) (some (.t 68)) none, none, [65, 67, 68]⟩,
         ⟨(some 70), .mv (.t 6), none, [6]⟩,
         ⟨(some 71), .call 42 [(.t 69), (.t 70)], none, [69, 70]⟩,
         ⟨(some 11), .mv (.t 71), none, [71]⟩])
      (RC.seq (RC.seq (RC.reg [⟨(some 72), .mv (.t 11), none, [11]⟩,
          ⟨(some 73), .bin (.int .lss) (.t 72) (.c (.int .i64 0)), none, [72]⟩])
       (RC.cond (.t 73)
        (RC.seq (RC.reg [⟨(some 4), .mv (.c (.int .i64 (-1))), none, []⟩])
         (RC.ret))
        (RC.skip)))
      (RC.reg [⟨(some 74), .mv (.t 8), none, [8]⟩,
        ⟨(some 75), .mv (.t 11), none, [11]⟩,
        ⟨(some 76), .bin (.int .add) (.t 75) (.c (.int .i64 1)), none, [75]⟩,
        ⟨(some 77), .bin (.int .add) (.t 74) (.t 76), none, [74, 76]⟩,
        ⟨(some 8), .mv (.t 77), none, [77]⟩])))
     (RC.skip)))
   (RC.seq (RC.seq (RC.reg [⟨(some 78), .mv (.t 0), none, [0]⟩,
       ⟨(some 79), .mv (.t 8), none, [8]⟩,
       ⟨(some 80), .bin (.int .add) (.t 79) (.c (.int .i64 1)), none, [79]⟩,
       ⟨(some 81), .ixs (.t 78) (.t 80), none, [78, 80]⟩,
       ⟨(some 82), .mv (.t 7), none, [7]⟩,
       ⟨(some 83), .bin (.int .eql) (.t 81) (.t 82), none, [81, 82]⟩,
       ⟨(some 84), .mv (.t 83), none, [83]⟩,
       ⟨(some 85), .mv (.t 0), (some (84, true)), [0, 84]⟩,
       ⟨(some 86), .mv (.t 8), (some (84, true)), [8, 84]⟩,
       ⟨(some 87), .mv (.t 8), (some (84, true)), [8, 84]⟩,
       ⟨(some 88), .mv (.t 5), (some (84, true)), [5, 84]⟩,
       ⟨(some 89), .bin (.int .add) (.t 87) (.t 88), (some (84, true)), [87, 88, 84]⟩,
       ⟨(some 90), .slstr (.t 85) (some (.t 86)) (some (.t 89)) none, (some (84, true)), [85, 86, 89, 84]⟩,
       ⟨(some 91), .mv (.t 1), (some (84, true)), [1, 84]⟩,
       ⟨(some 92), .bin (.str .eql) (.t 90) (.t 91), (some (84, true)), [90, 91, 84]⟩,
       ⟨(some 93), .pick (.t 84) (.t 92) (.c (.bool false)), none, [84, 92]⟩])
    (RC.cond (.t 93)
     (RC.seq (RC.reg [⟨(some 94), .mv (.t 8), none, [8]⟩,
         ⟨(some 4), .mv (.t 94), none, [94]⟩])
      (RC.ret))
     (RC.skip)))
   (RC.seq (RC.reg [⟨(some 95), .mv (.t 8), none, [8]⟩,
      ⟨(some 96), .bin (.int .add) (.t 95) (.c (.int .i64 1)), none, [95]⟩,
      ⟨(some 8), .mv (.t 96), none, [96]⟩])
   (RC.seq (RC.reg [⟨(some 97), .mv (.t 10), none, [10]⟩,
      ⟨(some 98), .bin (.int .add) (.t 97) (.c (.int .i64 1)), none, [97]⟩,
      ⟨(some 10), .mv (.t 98), none, [98]⟩])
   (RC.seq (RC.reg [⟨(some 99), .mv (.t 5), none, [5]⟩,
      ⟨(some 100), .ld1 (.c .bad), none, []⟩,
      ⟨(some 101), .bin (.int .leq) (.t 99) (.t 100), none, [99, 100]⟩,
      ⟨(some 102), .mv (.t 101), none, [101]⟩,
      ⟨(some 103), .mv (.t 10), (some (102, true)), [10, 102]⟩,
      ⟨(some 104), .mv (.t 8), (some (102, true)), [8, 102]⟩,
      ⟨(some 105), .call 104 [(.t 104)], (some (102, true)), [104, 102]⟩,
      ⟨(some 106), .bin (.int .gtr) (.t 103) (.t 105), (some (102, true)), [103, 105, 102]⟩,
      ⟨(some 107), .pick (.t 102) (.t 106) (.c (.bool false)), none, [102, 106]⟩])
   (RC.cond (.t 107)
    (RC.seq (RC.reg [⟨(some 108), .mv (.t 0), none, [0]⟩,
        ⟨(some 109), .mv (.t 8), none, [8]⟩,
        ⟨(some 110), .slstr (.t 108) (some (.t 109)) none none, none, [108, 109]⟩,
        ⟨(some 111), .mv (.t 1), none, [1]⟩,
        ⟨(some 112), .call 103 [(.t 110), (.t 111)], none, [110, 111]⟩,
        ⟨(some 12), .mv (.t 112), none, [112]⟩])
     (RC.seq (RC.seq (RC.reg [⟨(some 113), .mv (.t 12), none, [12]⟩,
         ⟨(some 114), .bin (.int .geq) (.t 113) (.c (.int .i64 0)), none, [113]⟩])
      (RC.cond (.t 114)
       (RC.seq (RC.reg [⟨(some 115), .mv (.t 12), none, [12]⟩,
           ⟨(some 116), .mv (.t 8), none, [8]⟩,
           ⟨(some 117), .bin (.int .add) (.t 115) (.t 116), none, [115, 116]⟩,
           ⟨(some 4), .mv (.t 117), none, [117]⟩])
        (RC.ret))
       (RC.skip)))
     (RC.seq (RC.reg [⟨(some 4), .mv (.c (.int .i64 (-1))), none, []⟩])
     (RC.ret))))
    (RC.seq (RC.reg [⟨(some 118), .mv (.t 5), none, [5]⟩,
        ⟨(some 119), .ld1 (.c .bad), none, []⟩,
        ⟨(some 120), .bin (.int .gtr) (.t 118) (.t 119), none, [118, 119]⟩,
        ⟨(some 121), .mv (.t 120), none, [120]⟩,
        ⟨(some 122), .mv (.t 10), (some (121, true)), [10, 121]⟩,
        ⟨(some 123), .mv (.t 8), (some (121, true)), [8, 121]⟩,
        ⟨(some 124), .bin .shr (.t 123) (.c (.int .u64 4)), (some (121, true)), [123, 121]⟩,
        ⟨(some 125), .bin (.int .add) (.c (.int .i64 4)) (.t 124), (some (121, true)), [124, 121]⟩,
        ⟨(some 126), .bin (.int .geq) (.t 122) (.t 125), (some (121, true)), [122, 125, 121]⟩,
        ⟨(some 127), .pick (.t 121) (.t 126) (.c (.bool false)), none, [121, 126]⟩,
        ⟨(some 128), .mv (.t 127), none, [127]⟩,
        ⟨(some 129), .mv (.t 8), (some (128, true)), [8, 128]⟩,
        ⟨(some 130), .mv (.t 9), (some (128, true)), [9, 128]⟩,
        ⟨(some 131), .bin (.int .lss) (.t 129) (.t 130), (some (128, true)), [129, 130, 128]⟩,
        ⟨(some 132), .pick (.t 128) (.t 131) (.c (.bool false)), none, [128, 131]⟩])
     (RC.cond (.t 132)
      (RC.seq (RC.reg [⟨(some 133), .mv (.t 0), none, [0]⟩,
          ⟨(some 134), .mv (.t 8), none, [8]⟩,
          ⟨(some 135), .slstr (.t 133) (some (.t 134)) none none, none, [133, 134]⟩,
          ⟨(some 136), .mv (.t 1), none, [1]⟩,
          ⟨(some 137), .call 105 [(.t 135), (.t 136)], none, [135, 136]⟩,
          ⟨(some 13), .mv (.t 137), none, [137]⟩])
       (RC.seq (RC.seq (RC.reg [⟨(some 138), .mv (.t 13), none, [13]⟩,
           ⟨(some 139), .bin (.int .lss) (.t 138) (.c (.int .i64 0)), none, [138]⟩])
        (RC.cond (.t 139)
         (RC.seq (RC.reg [⟨(some 4), .mv (.c (.int .i64 (-1))), none, []⟩])
          (RC.ret))
         (RC.skip)))
       (RC.seq (RC.reg [⟨(some 140), .mv (.t 8), none, [8]⟩,
          ⟨(some 141), .mv (.t 13), none, [13]⟩,
          ⟨(some 142), .bin (.int .add) (.t 140) (.t 141), none, [140, 141]⟩,
          ⟨(some 4), .mv (.t 142), none, [142]⟩])
       (RC.ret))))
      (RC.skip))))))))))
def c89 : RC :=
  RC.seq (RC.reg [⟨(some 4), .mv (.c (.int .i64 0)), none, []⟩])
  (RC.seq (RC.reg [⟨(some 14), .mv (.t 1), none, [1]⟩,
     ⟨(some 15), .len .str (.t 14), none, [14]⟩,
     ⟨(some 5), .mv (.t 15), none, [15]⟩])
  (RC.seq (RC.block 0 (RC.seq (RC.reg [⟨(some 17), .mv (.t 5), none, [5]⟩,
       ⟨(some 18), .bin (.int .eql) (.t 17) (.c (.int .i64 0)), none, [17]⟩,
       ⟨(some 19), .mv (.t 18), none, [18]⟩,
       ⟨(some 20), .mv (.t 1), (some (19, false)), [1, 19]⟩,
       ⟨(some 21), .mv (.t 0), (some (19, false)), [0, 19]⟩,
       ⟨(some 22), .bin (.str .eql) (.t 20) (.t 21), (some (19, false)), [20, 21, 19]⟩,
       ⟨(some 23), .pick (.t 19) (.c (.bool true)) (.t 22), none, [19, 22]⟩,
       ⟨(some 16), .mv (.t 23), none, [23]⟩])
    (RC.cond (.t 16)
     (RC.seq (RC.reg [⟨(some 4), .mv (.c (.int .i64 0)), none, []⟩])
      (RC.ret))
     (RC.seq (RC.reg [⟨(some 25), .mv (.t 5), none, [5]⟩,
         ⟨(some 26), .bin (.int .eql) (.t 25) (.c (.int .i64 1)), none, [25]⟩,
         ⟨(some 24), .mv (.t 26), none, [26]⟩])
      (RC.cond (.t 24)
       (RC.seq (RC.reg [⟨(some 27), .mv (.t 0), none, [0]⟩,
           ⟨(some 28), .mv (.t 1), none, [1]⟩,
           ⟨(some 29), .ixs (.t 28) (.c (.int .i64 0)), none, [28]⟩,
           ⟨(some 30), .call 42 [(.t 27), (.t 29)], none, [27, 29]⟩,
           ⟨(some 4), .mv (.t 30), none, [30]⟩])
        (RC.ret))
       (RC.seq (RC.reg [⟨(some 32), .mv (.t 5), none, [5]⟩,
           ⟨(some 33), .mv (.t 0), none, [0]⟩,
           ⟨(some 34), .len .str (.t 33), none, [33]⟩,
           ⟨(some 35), .bin (.int .geq) (.t 32) (.t 34), none, [32, 34]⟩,
           ⟨(some 31), .mv (.t 35), none, [35]⟩])
        (RC.cond (.t 31)
         (RC.seq (RC.reg [⟨(some 4), .mv (.c (.int .i64 (-1))), none, []⟩])
          (RC.ret))
         (RC.seq (RC.reg [⟨(some 37), .mv (.t 5), none, [5]⟩,
             ⟨(some 38), .ld1 (.c .bad), none, []⟩,
             ⟨(some 39), .bin (.int .leq) (.t 37) (.t 38), none, [37, 38]⟩,
             ⟨(some 40), .mv (.t 39), none, [39]⟩,
             ⟨(some 41), .mv (.t 0), (some (40, true)), [0, 40]⟩,
             ⟨(some 42), .len .str (.t 41), (some (40, true)), [41, 40]⟩,
             ⟨(some 43), .bin (.int .leq) (.t 42) (.c (.int .i64 64)), (some (40, true)), [42, 40]⟩,
             ⟨(some 44), .pick (.t 40) (.t 43) (.c (.bool false)), none, [40, 43]⟩,
             ⟨(some 36), .mv (.t 44), none, [44]⟩])
          (RC.cond (.t 36)
           (RC.seq (RC.reg [⟨(some 45), .mv (.t 0), none, [0]⟩,
               ⟨(some 46), .mv (.t 1), none, [1]⟩,
               ⟨(some 47), .call 103 [(.t 45), (.t 46)], none, [45, 46]⟩,
               ⟨(some 4), .mv (.t 47), none, [47]⟩])
            (RC.ret))
           (RC.skip))))))))))
  (RC.seq (RC.reg [⟨(some 48), .mv (.t 1), none, [1]⟩,
     ⟨(some 49), .ixs (.t 48) (.c (.int .i64 0)), none, [48]⟩,
     ⟨(some 6), .mv (.t 49), none, [49]⟩])
  (RC.seq (RC.reg [⟨(some 50), .mv (.t 1), none, [1]⟩,
     ⟨(some 51), .ixs (.t 50) (.c (.int .i64 1)), none, [50]⟩,
     ⟨(some 7), .mv (.t 51), none, [51]⟩])
  (RC.seq (RC.reg [⟨(some 8), .mv (.c (.int .i64 0)), none, []⟩])
  (RC.seq (RC.reg [⟨(some 52), .mv (.t 0), none, [0]⟩,
     ⟨(some 53), .len .str (.t 52), none, [52]⟩,
     ⟨(some 54), .mv (.t 5), none, [5]⟩,
     ⟨(some 55), .bin (.int .sub) (.t 53) (.t 54), none, [53, 54]⟩,
     ⟨(some 56), .bin (.int .add) (.t 55) (.c (.int .i64 1)), none, [55]⟩,
     ⟨(some 9), .mv (.t 56), none, [56]⟩])
  (RC.seq (RC.reg [⟨(some 10), .mv (.c (.int .i64 0)), none, []⟩])
  (RC.seq (RC.block 1 (RC.loop c89l1))
  (RC.seq (RC.reg [⟨(some 4), .mv (.c (.int .i64 (-1))), none, []⟩])
  (RC.ret))))))))))
theorem c89_ok : resK Tryd.prog Tryd.f89.ntmps (Tryd.f89.body.getD .skip) = c89 := by kernel_rfl
theorem c89_res : resR Tryd.prog Tryd.f89.ntmps Tryd.f89.results.toList = [.t 4] := by kernel_rfl
theorem c89_ctr {args : List V} {h : Heap} {K : V → Heap → Prop} (hl : Nat.ble args.length 143 = true) (H : wpC Tryd.prog c89 (RF.ofL args) h fun e r h' => e.ends ∧ ∃ vs, evR r h' [.t 4] = some vs ∧ K (oneOf vs) h') : Ctr Tryd.prog 89 args h K :=
  ctr_of_wp follows namesOk Tryd.func89 (c := Tryd.f89.body.getD .skip) (by kernel_rfl) (by kernel_rfl) hl c89_ok c89_res H
end Go.Proofs.YthcgccnbhdociaaDoor
