/- The chapter's functions, walked by the abstract machine: plain lemmas, no condition. -/
import Derived.Test.YthcgccnbhdociaaDoorM3
import Derived.Test.YthcgccnbhdociaaDoorM4
import Derived.WalkSmall
import Derived.Lib.LaidTab
import Derived.Shelf.Unicode.DecodeAny
import Derived.Shelf.Strconv.Itoa3
import Derived.Test.YthcgccnbhdociaaDoorRows
import Derived.Shelf.Unicode.Decode
import Derived.Shelf.Unicode.DecodeSlow
import Derived.Shelf.Strings.Search3
import Derived.Shelf.Strconv.Atoi
import Derived.Shelf.Pu.ParseUintPublic10
import Derived.Lib.LaidU8T

namespace Go.Proofs.YthcgccnbhdociaaDoor
open Go Am Go.RowKit

theorem block_lt {w : World} {p : Addr} {v : Value} (h : w.cell? p = some v) : p.block < w.heap.size := by
  unfold World.cell? at h
  by_cases q : p.block < w.heap.size
  · exact q
  · rw [Array.getElem?_eq_none (by omega)] at h
    cases h
/-- a variable that holds an error -/
def ErrAt (w : World) (g : Nat) : Prop := ∃ ev, w.cell? ⟨g, 0, none⟩ = some ev ∧ (ev = .nilIface ∨ ∃ te pe, ev = .iface te pe)
theorem ErrAt.keep {w w' : World} {g : Nat} (h : ErrAt w g) (hb : Below w.heap.size w w') : ErrAt w' g := by
  obtain ⟨ev, h1, h2⟩ := h
  exact ⟨ev, by rw [hb.cell (block_lt h1)]; exact h1, h2⟩
/-- what the library's variables hold -/
structure LibOk (w : World) : Prop where
  utf8 : Lib.Utf8Tabs 0 1 w
  maxLen : ∃ m, w.cell? ⟨2, 0, none⟩ = some (.int .i64 m)
  errSyntax : ErrAt w 4
  errRange : ErrAt w 5
  pow10 : Lib.TabIs Tryd.prog w "internal/strconv.uint64pow10" .u64 Lib.pow10Tab
noncomputable instance lay : Lay where
  ok w := LibOk w
  keep := by
    intro w w' h hb
    refine ⟨?_, ?_, h.errSyntax.keep hb, h.errRange.keep hb, ?_⟩
    · obtain ⟨h1, h2⟩ := h.utf8
      refine ⟨fun c hc => ?_, fun i hi => ?_⟩
      · rw [hb.cell (block_lt (h1 c hc))]
        exact h1 c hc
      · obtain ⟨q1, q2⟩ := h2 i hi
        rw [hb.cell (block_lt q1), hb.cell (block_lt q2)]
        exact ⟨q1, q2⟩
    · obtain ⟨m, q⟩ := h.maxLen
      exact ⟨m, by rw [hb.cell (block_lt q)]; exact q⟩
    · have hg : Tryd.prog.globalNamed "internal/strconv.uint64pow10" = some 3 := by kernel_rfl
      have hl : 3 < w.heap.size := by
        have q := h.pow10
        unfold Lib.TabIs World.var? at q
        rw [hg] at q
        by_cases hlt : 3 < w.heap.size
        · exact hlt
        · simp only [Option.bind_some] at q
          rw [Array.getElem?_eq_none (by omega)] at q
          cases q
      exact var?_below hb hg hl h.pow10
end Go.Proofs.YthcgccnbhdociaaDoor

namespace Go.Proofs.YthcgccnbhdociaaDoor
open Go Am
theorem follows : Tryd.prog.follows .mixedOrders = true := by kernel_rfl
theorem names : (Tryd.prog.funcs.toList.all fun fn => !(fn.name == "runtime.NumGoroutine")) = true := by kernel_rfl
theorem namesOk : NamesOk Tryd.prog := by
  intro f fn h
  have := List.all_eq_true.1 names fn (List.mem_of_getElem? (i := f) (by simpa using h))
  simpa using this

set_option linter.unusedSectionVars false
/-- gimlet/lex.Lex -/
def c10l1 : RC :=
  RC.block 1 (RC.seq (RC.reg [⟨(some 24), .mv (.t 5), none, [5]⟩,
      ⟨(some 25), .nilck (.t 24), none, [24]⟩,
      ⟨(some 26), .fa 1 (.t 25), none, [25]⟩,
      ⟨(some 27), .ld1 (.t 26), none, [26]⟩,
      ⟨(some 7), .mv (.t 27), none, [27]⟩])
   (RC.seq (RC.block 2 (RC.seq (RC.reg [⟨(some 37), .mv (.t 7), none, [7]⟩,
        ⟨(some 38), .mv (.t 0), none, [0]⟩,
        ⟨(some 39), .len .str (.t 38), none, [38]⟩,
        ⟨(some 40), .bin (.int .geq) (.t 37) (.t 39), none, [37, 39]⟩,
        ⟨(some 36), .mv (.t 40), none, [40]⟩])
     (RC.cond (.t 36)
      (RC.exit 0)
      (RC.seq (RC.reg [⟨(some 42), .mv (.t 0), none, [0]⟩,
          ⟨(some 43), .mv (.t 7), none, [7]⟩,
          ⟨(some 44), .ixs (.t 42) (.t 43), none, [42, 43]⟩,
          ⟨(some 45), .call 23 [(.c (.str [9, 10, 13, 32])), (.t 44)], none, [44]⟩,
          ⟨(some 46), .bin (.int .geq) (.t 45) (.c (.int .i64 0)), none, [45]⟩,
          ⟨(some 41), .mv (.t 46), none, [46]⟩])
       (RC.cond (.t 41)
        (RC.reg [⟨(some 47), .mv (.t 5), none, [5]⟩,
           ⟨(some 48), .nilck (.t 47), none, [47]⟩,
           ⟨(some 49), .fa 1 (.t 48), none, [48]⟩,
           ⟨(some 50), .ld1 (.t 49), none, [49]⟩,
           ⟨(some 51), .bin (.int .add) (.t 50) (.c (.int .i64 1)), none, [50]⟩,
           ⟨(some 52), .nilck (.t 47), none, [47]⟩,
           ⟨(some 53), .fa 1 (.t 52), none, [52]⟩,
           ⟨none, .st 1 (.t 53) (.t 51), none, [53, 51]⟩])
        (RC.seq (RC.reg [⟨(some 55), .mv (.t 5), none, [5]⟩,
            ⟨(some 56), .call 24 [(.t 55), (.c (.str [40, 42]))], none, [55]⟩,
            ⟨(some 54), .mv (.t 56), none, [56]⟩])
         (RC.cond (.t 54)
          (RC.reg [⟨(some 57), .mv (.t 5), none, [5]⟩,
             ⟨(some 58), .call 25 [(.t 57)], none, [57]⟩])
          (RC.seq (RC.reg [⟨(some 28), .mv (.t 5), none, [5]⟩,
              ⟨(some 29), .call 26 [(.t 28)], none, [28]⟩,
              ⟨(some 8), .new [(.int .i64 0), (.int .i64 0), (.int .i64 0), (.str [])], none, []⟩,
              ⟨none, .st 4 (.t 8) (.t 29), none, [8, 29]⟩])
           (RC.seq (RC.reg [⟨(some 30), .mv (.t 7), none, [7]⟩,
              ⟨(some 31), .fa 2 (.t 8), none, [8]⟩,
              ⟨none, .st 1 (.t 31) (.t 30), none, [31, 30]⟩])
           (RC.reg [⟨(some 32), .mv (.t 6), none, [6]⟩,
             ⟨(some 33), .ldn 4 (.t 8), none, [8]⟩,
             ⟨(some 34), .bsl 1 4 [(.int .i64 0), (.int .i64 0), (.int .i64 0), (.str [])] [(0, 4, (.t 33))], none, [33]⟩,
             ⟨(some 35), .app 4 (.t 32) (.t 34), none, [32, 34]⟩,
             ⟨(some 6), .mv (.t 35), none, [35]⟩]))))))))))
   (RC.seq (RC.reg [⟨(some 59), .mv (.t 5), none, [5]⟩,
      ⟨(some 60), .nilck (.t 59), none, [59]⟩,
      ⟨(some 61), .fa 2 (.t 60), none, [60]⟩,
      ⟨(some 62), .ld1 (.t 61), none, [61]⟩,
      ⟨(some 63), .bin (.int .neq) (.t 62) (.c (.int .i64 0)), none, [62]⟩])
   (RC.cond (.t 63)
    (RC.seq (RC.draw [⟨(some 64), .mv (.t 5), none, [5]⟩,
        ⟨(some 65), .nilck (.t 64), none, [64]⟩,
        ⟨(some 66), .fa 2 (.t 65), none, [65]⟩,
        ⟨(some 67), .ld1 (.t 66), none, [66]⟩,
        ⟨(some 68), .mv (.t 7), none, [7]⟩,
        ⟨(some 69), .build [(.int .i64 0), (.int .i64 0)] [(0, 1, (.t 67)), (1, 1, (.t 68))], none, [67, 68]⟩,
        ⟨(some 2), .mv (.c .nilslice), none, []⟩,
        ⟨none, .st 2 (.t 3) (.t 69), none, [3, 69]⟩] [(3, [7])])
     (RC.ret))
    (RC.skip)))))
def c10 : RC :=
  RC.seq (RC.reg [⟨(some 2), .mv (.c .nilslice), none, []⟩,
     ⟨(some 3), .new [(.int .i64 0), (.int .i64 0)], none, []⟩])
  (RC.seq (RC.seq (RC.reg [⟨(some 9), .mv (.t 0), none, [0]⟩,
      ⟨(some 10), .len .str (.t 9), none, [9]⟩,
      ⟨(some 11), .bin (.int .gtr) (.t 10) (.c (.int .i64 65536)), none, [10]⟩])
   (RC.cond (.t 11)
    (RC.seq (RC.reg [⟨(some 12), .build [(.int .i64 0), (.int .i64 0)] [(0, 1, (.c (.int .i64 3)))], none, []⟩,
        ⟨(some 2), .mv (.c .nilslice), none, []⟩,
        ⟨none, .st 2 (.t 3) (.t 12), none, [3, 12]⟩])
     (RC.ret))
    (RC.skip)))
  (RC.seq (RC.seq (RC.reg [⟨(some 13), .mv (.t 0), none, [0]⟩,
      ⟨(some 14), .call 13 [(.t 13)], none, [13]⟩,
      ⟨(some 4), .mv (.t 14), none, [14]⟩])
   (RC.seq (RC.reg [⟨(some 15), .mv (.t 4), none, [4]⟩,
      ⟨(some 16), .mv (.t 0), none, [0]⟩,
      ⟨(some 17), .len .str (.t 16), none, [16]⟩,
      ⟨(some 18), .bin (.int .lss) (.t 15) (.t 17), none, [15, 17]⟩])
   (RC.cond (.t 18)
    (RC.seq (RC.reg [⟨(some 19), .mv (.t 4), none, [4]⟩,
        ⟨(some 20), .build [(.int .i64 0), (.int .i64 0)] [(0, 1, (.c (.int .i64 250))), (1, 1, (.t 19))], none, [19]⟩,
        ⟨(some 2), .mv (.c .nilslice), none, []⟩,
        ⟨none, .st 2 (.t 3) (.t 20), none, [3, 20]⟩])
     (RC.ret))
    (RC.skip))))
  (RC.seq (RC.reg [⟨(some 21), .mv (.t 0), none, [0]⟩,
     ⟨(some 22), .build [(.str []), (.int .i64 0), (.int .i64 0)] [(0, 1, (.t 21))], none, [21]⟩,
     ⟨(some 23), .box (.t 22), none, [22]⟩,
     ⟨(some 5), .mv (.t 23), none, [23]⟩])
  (RC.seq (RC.reg [⟨(some 6), .mv (.c .nilslice), none, []⟩])
  (RC.seq (RC.skip)
  (RC.seq (RC.block 0 (RC.loop c10l1))
  (RC.seq (RC.reg [⟨(some 70), .mv (.t 6), none, [6]⟩,
     ⟨(some 71), .build [(.int .i64 0), (.int .i64 0)] [], none, []⟩,
     ⟨(some 2), .mv (.t 70), none, [70]⟩,
     ⟨none, .st 2 (.t 3) (.t 71), none, [3, 71]⟩])
  (RC.ret))))))))
theorem c10_ok : resK Tryd.prog Tryd.f10.ntmps (Tryd.f10.body.getD .skip) = c10 := by kernel_rfl
theorem c10_res : resR Tryd.prog Tryd.f10.ntmps Tryd.f10.results.toList = [.t 2, .cn 3 2] := by kernel_rfl
theorem c10_ctr {args : List V} {h : Heap} {K : V → Heap → Prop} (hl : Nat.ble args.length 72 = true) (H : wpC Tryd.prog c10 (RF.ofL args) h fun e r h' => e.ends ∧ ∃ vs, evR r h' [.t 2, .cn 3 2] = some vs ∧ K (oneOf vs) h') : Ctr Tryd.prog 10 args h K :=
  ctr_of_wp follows namesOk Tryd.func10 (c := Tryd.f10.body.getD .skip) (by kernel_rfl) (by kernel_rfl) hl c10_ok c10_res H

/-- gimlet/lex.Right -/
def c13l1 : RC :=
  RC.seq (RC.reg [⟨(some 9), .nxt (.t 8), none, [8]⟩,
     ⟨(some 10), .ext (.t 9) 0, none, [9]⟩])
  (RC.seq (RC.cond (.t 10)
    (RC.skip)
    (RC.exit 0))
  (RC.block 1 (RC.seq (RC.reg [⟨(some 11), .ext (.t 9) 1, none, [9]⟩,
      ⟨(some 12), .ext (.t 9) 2, none, [9]⟩,
      ⟨(some 3), .mv (.t 11), none, [11]⟩,
      ⟨(some 4), .mv (.t 12), none, [12]⟩])
   (RC.seq (RC.reg [⟨(some 13), .mv (.t 4), none, [4]⟩,
      ⟨(some 14), .bin (.int .eql) (.t 13) (.c (.int .i32 65533)), none, [13]⟩])
   (RC.cond (.t 14)
    (RC.seq (RC.reg [⟨(some 16), .mv (.t 0), none, [0]⟩,
        ⟨(some 17), .mv (.t 3), none, [3]⟩,
        ⟨(some 18), .slstr (.t 16) (some (.t 17)) none none, none, [16, 17]⟩,
        ⟨(some 19), .call 34 [(.t 18)], none, [18]⟩,
        ⟨(some 15), .mv (.t 19), none, [19]⟩,
        ⟨(some 20), .ext (.t 15) 0, none, [15]⟩,
        ⟨(some 21), .ext (.t 15) 1, none, [15]⟩,
        ⟨(some 5), .mv (.t 20), none, [20]⟩,
        ⟨(some 6), .mv (.t 21), none, [21]⟩])
     (RC.seq (RC.reg [⟨(some 22), .mv (.t 6), none, [6]⟩,
        ⟨(some 23), .bin (.int .eql) (.t 22) (.c (.int .i64 1)), none, [22]⟩])
     (RC.cond (.t 23)
      (RC.seq (RC.reg [⟨(some 24), .mv (.t 3), none, [3]⟩,
          ⟨(some 2), .mv (.t 24), none, [24]⟩])
       (RC.ret))
      (RC.skip))))
    (RC.skip))))))
def c13 : RC :=
  RC.seq (RC.reg [⟨(some 2), .mv (.c (.int .i64 0)), none, []⟩])
  (RC.seq (RC.seq (RC.reg [⟨(some 7), .mv (.t 0), none, [0]⟩,
      ⟨(some 8), .rngs (.t 7), none, [7]⟩])
   (RC.block 0 (RC.loop c13l1)))
  (RC.seq (RC.reg [⟨(some 25), .mv (.t 0), none, [0]⟩,
     ⟨(some 26), .len .str (.t 25), none, [25]⟩,
     ⟨(some 2), .mv (.t 26), none, [26]⟩])
  (RC.ret)))
theorem c13_ok : resK Tryd.prog Tryd.f13.ntmps (Tryd.f13.body.getD .skip) = c13 := by kernel_rfl
theorem c13_res : resR Tryd.prog Tryd.f13.ntmps Tryd.f13.results.toList = [.t 2] := by kernel_rfl
theorem c13_ctr {args : List V} {h : Heap} {K : V → Heap → Prop} (hl : Nat.ble args.length 27 = true) (H : wpC Tryd.prog c13 (RF.ofL args) h fun e r h' => e.ends ∧ ∃ vs, evR r h' [.t 2] = some vs ∧ K (oneOf vs) h') : Ctr Tryd.prog 13 args h K :=
  ctr_of_wp follows namesOk Tryd.func13 (c := Tryd.f13.body.getD .skip) (by kernel_rfl) (by kernel_rfl) hl c13_ok c13_res H

/-- gimlet/lex.Write -/
def c18l1 : RC :=
  RC.seq (RC.reg [⟨(some 11), .bin (.int .lss) (.t 10) (.t 9), none, [10, 9]⟩])
  (RC.seq (RC.cond (.t 11)
    (RC.skip)
    (RC.exit 0))
  (RC.seq (RC.block 1 (RC.seq (RC.reg [⟨(some 12), .ia 4 (.t 8) (.t 10), none, [8, 10]⟩,
       ⟨(some 13), .ldn 4 (.t 12), none, [12]⟩,
       ⟨(some 6), .new [(.int .i64 0), (.int .i64 0), (.int .i64 0), (.str [])], none, []⟩,
       ⟨none, .st 4 (.t 6) (.t 13), none, [6, 13]⟩])
    (RC.seq (RC.seq (RC.reg [⟨(some 14), .ldn 4 (.t 6), none, [6]⟩,
        ⟨(some 15), .call 36 [(.t 14)], none, [14]⟩,
        ⟨(some 16), .un .not (.t 15), none, [15]⟩])
     (RC.cond (.t 16)
      (RC.seq (RC.reg [⟨(some 2), .mv (.c (.str [])), none, []⟩,
          ⟨(some 3), .mv (.c (.int .i64 2)), none, []⟩])
       (RC.ret))
      (RC.skip)))
    (RC.seq (RC.reg [⟨(some 17), .fa 3 (.t 6), none, [6]⟩,
       ⟨(some 18), .ld1 (.t 17), none, [17]⟩,
       ⟨(some 7), .mv (.t 18), none, [18]⟩])
    (RC.seq (RC.seq (RC.reg [⟨(some 19), .fa 0 (.t 6), none, [6]⟩,
        ⟨(some 20), .ld1 (.t 19), none, [19]⟩])
     (RC.block 2 (RC.seq (RC.reg [⟨(some 22), .bin (.int .eql) (.t 20) (.c (.int .i64 1)), none, [20]⟩,
         ⟨(some 21), .mv (.t 22), none, [22]⟩])
      (RC.cond (.t 21)
       (RC.reg [⟨(some 23), .fa 1 (.t 6), none, [6]⟩,
          ⟨(some 24), .ld1 (.t 23), none, [23]⟩,
          ⟨(some 25), .bin (.int .and) (.t 24) (.c (.int .i64 2147483647)), none, [24]⟩,
          ⟨(some 26), .call 37 [(.t 25)], none, [25]⟩,
          ⟨(some 7), .mv (.t 26), none, [26]⟩])
       (RC.seq (RC.reg [⟨(some 28), .bin (.int .eql) (.t 20) (.c (.int .i64 2)), none, [20]⟩,
           ⟨(some 27), .mv (.t 28), none, [28]⟩])
        (RC.cond (.t 27)
         (RC.reg [⟨(some 29), .mv (.t 7), none, [7]⟩,
            ⟨(some 30), .call 38 [(.t 29)], none, [29]⟩,
            ⟨(some 7), .mv (.t 30), none, [30]⟩])
         (RC.seq (RC.reg [⟨(some 32), .bin (.int .eql) (.t 20) (.c (.int .i64 5)), none, [20]⟩,
             ⟨(some 31), .mv (.t 32), none, [32]⟩])
          (RC.cond (.t 31)
           (RC.reg [⟨(some 33), .mv (.t 7), none, [7]⟩,
              ⟨(some 34), .bin (.str .add) (.c (.str [39])) (.t 33), none, [33]⟩,
              ⟨(some 7), .mv (.t 34), none, [34]⟩])
           (RC.skip)))))))))
    (RC.reg [⟨(some 35), .mv (.t 4), none, [4]⟩,
      ⟨(some 36), .mv (.t 7), none, [7]⟩,
      ⟨(some 37), .bsl 1 1 [(.str [])] [(0, 1, (.t 36))], none, [36]⟩,
      ⟨(some 38), .app 1 (.t 35) (.t 37), none, [35, 37]⟩,
      ⟨(some 4), .mv (.t 38), none, [38]⟩]))))))
  (RC.reg [⟨(some 39), .bin (.int .add) (.t 10) (.c (.int .i64 1)), none, [10]⟩,
    ⟨(some 10), .mv (.t 39), none, [39]⟩])))
def c18 : RC :=
  RC.seq (RC.reg [⟨(some 2), .mv (.c (.str [])), none, []⟩,
     ⟨(some 3), .mv (.c (.int .i64 0)), none, []⟩])
  (RC.seq (RC.reg [⟨(some 4), .mv (.c .nilslice), none, []⟩])
  (RC.seq (RC.seq (RC.reg [⟨(some 8), .mv (.t 0), none, [0]⟩,
      ⟨(some 9), .len .slice (.t 8), none, [8]⟩,
      ⟨(some 10), .mv (.c (.int .i64 0)), none, []⟩])
   (RC.block 0 (RC.loop c18l1)))
  (RC.seq (RC.reg [⟨(some 40), .mv (.t 4), none, [4]⟩,
     ⟨(some 41), .call 39 [(.t 40), (.c (.str [32]))], none, [40]⟩,
     ⟨(some 2), .mv (.t 41), none, [41]⟩,
     ⟨(some 3), .mv (.c (.int .i64 0)), none, []⟩])
  (RC.ret))))
theorem c18_ok : resK Tryd.prog Tryd.f18.ntmps (Tryd.f18.body.getD .skip) = c18 := by kernel_rfl
theorem c18_res : resR Tryd.prog Tryd.f18.ntmps Tryd.f18.results.toList = [.t 2, .t 3] := by kernel_rfl
theorem c18_ctr {args : List V} {h : Heap} {K : V → Heap → Prop} (hl : Nat.ble args.length 42 = true) (H : wpC Tryd.prog c18 (RF.ofL args) h fun e r h' => e.ends ∧ ∃ vs, evR r h' [.t 2, .t 3] = some vs ∧ K (oneOf vs) h') : Ctr Tryd.prog 18 args h K :=
  ctr_of_wp follows namesOk Tryd.func18 (c := Tryd.f18.body.getD .skip) (by kernel_rfl) (by kernel_rfl) hl c18_ok c18_res H

/-- strings.IndexByte -/
def c23 : RC :=
  RC.seq (RC.reg [⟨(some 4), .mv (.c (.int .i64 0)), none, []⟩])
  (RC.seq (RC.reg [⟨(some 5), .mv (.t 0), none, [0]⟩,
     ⟨(some 6), .mv (.t 1), none, [1]⟩,
     ⟨(some 7), .call 42 [(.t 5), (.t 6)], none, [5, 6]⟩,
     ⟨(some 4), .mv (.t 7), none, [7]⟩])
  (RC.ret))
theorem c23_ok : resK Tryd.prog Tryd.f23.ntmps (Tryd.f23.body.getD .skip) = c23 := by kernel_rfl
theorem c23_res : resR Tryd.prog Tryd.f23.ntmps Tryd.f23.results.toList = [.t 4] := by kernel_rfl
theorem c23_ctr {args : List V} {h : Heap} {K : V → Heap → Prop} (hl : Nat.ble args.length 8 = true) (H : wpC Tryd.prog c23 (RF.ofL args) h fun e r h' => e.ends ∧ ∃ vs, evR r h' [.t 4] = some vs ∧ K (oneOf vs) h') : Ctr Tryd.prog 23 args h K :=
  ctr_of_wp follows namesOk Tryd.func23 (c := Tryd.f23.body.getD .skip) (by kernel_rfl) (by kernel_rfl) hl c23_ok c23_res H

/-- (*gimlet/lex.scanner).has -/
def c24 : RC :=
  RC.seq (RC.reg [⟨(some 4), .mv (.c (.bool false)), none, []⟩])
  (RC.seq (RC.draw [⟨(some 5), .mv (.t 0), none, [0]⟩,
     ⟨(some 6), .nilck (.t 5), none, [5]⟩,
     ⟨(some 7), .fa 0 (.t 6), none, [6]⟩,
     ⟨(some 8), .ld1 (.t 7), none, [7]⟩,
     ⟨(some 9), .mv (.t 0), none, [0]⟩,
     ⟨(some 10), .nilck (.t 9), none, [9]⟩,
     ⟨(some 11), .fa 1 (.t 10), none, [10]⟩,
     ⟨(some 12), .ld1 (.t 11), none, [11]⟩,
     ⟨(some 13), .slstr (.t 8) (some (.t 12)) none none, none, [8, 12]⟩,
     ⟨(some 14), .mv (.t 1), none, [1]⟩,
     ⟨(some 15), .call 43 [(.t 13), (.t 14)], none, [13, 14]⟩,
     ⟨(some 4), .mv (.t 15), none, [15]⟩] [(3, [10]), (7, [10])])
  (RC.ret))
theorem c24_ok : resK Tryd.prog Tryd.f24.ntmps (Tryd.f24.body.getD .skip) = c24 := by kernel_rfl
theorem c24_res : resR Tryd.prog Tryd.f24.ntmps Tryd.f24.results.toList = [.t 4] := by kernel_rfl
theorem c24_ctr {args : List V} {h : Heap} {K : V → Heap → Prop} (hl : Nat.ble args.length 16 = true) (H : wpC Tryd.prog c24 (RF.ofL args) h fun e r h' => e.ends ∧ ∃ vs, evR r h' [.t 4] = some vs ∧ K (oneOf vs) h') : Ctr Tryd.prog 24 args h K :=
  ctr_of_wp follows namesOk Tryd.func24 (c := Tryd.f24.body.getD .skip) (by kernel_rfl) (by kernel_rfl) hl c24_ok c24_res H

/-- (*gimlet/lex.scanner).note -/
def c25l1 : RC :=
  RC.block 1 (RC.block 2 (RC.seq (RC.draw [⟨(some 11), .mv (.t 0), none, [0]⟩,
       ⟨(some 12), .nilck (.t 11), none, [11]⟩,
       ⟨(some 13), .fa 1 (.t 12), none, [12]⟩,
       ⟨(some 14), .ld1 (.t 13), none, [13]⟩,
       ⟨(some 15), .mv (.t 0), none, [0]⟩,
       ⟨(some 16), .nilck (.t 15), none, [15]⟩,
       ⟨(some 17), .fa 0 (.t 16), none, [16]⟩,
       ⟨(some 18), .ld1 (.t 17), none, [17]⟩,
       ⟨(some 19), .len .str (.t 18), none, [18]⟩,
       ⟨(some 20), .bin (.int .geq) (.t 14) (.t 19), none, [14, 19]⟩,
       ⟨(some 10), .mv (.t 20), none, [20]⟩] [])
    (RC.cond (.t 10)
     (RC.seq (RC.reg [⟨(some 21), .mv (.t 0), none, [0]⟩,
         ⟨(some 22), .nilck (.t 21), none, [21]⟩,
         ⟨(some 23), .fa 2 (.t 22), none, [22]⟩,
         ⟨none, .st 1 (.t 23) (.c (.int .i64 253)), none, [23]⟩])
      (RC.ret))
     (RC.seq (RC.reg [⟨(some 25), .mv (.t 0), none, [0]⟩,
         ⟨(some 26), .call 24 [(.t 25), (.c (.str [40, 42]))], none, [25]⟩,
         ⟨(some 24), .mv (.t 26), none, [26]⟩])
      (RC.cond (.t 24)
       (RC.seq (RC.reg [⟨(some 27), .mv (.t 2), none, [2]⟩,
           ⟨(some 28), .bin (.int .add) (.t 27) (.c (.int .i64 1)), none, [27]⟩,
           ⟨(some 2), .mv (.t 28), none, [28]⟩])
        (RC.reg [⟨(some 29), .mv (.t 0), none, [0]⟩,
          ⟨(some 30), .nilck (.t 29), none, [29]⟩,
          ⟨(some 31), .fa 1 (.t 30), none, [30]⟩,
          ⟨(some 32), .ld1 (.t 31), none, [31]⟩,
          ⟨(some 33), .bin (.int .add) (.t 32) (.c (.int .i64 2)), none, [32]⟩,
          ⟨(some 34), .nilck (.t 29), none, [29]⟩,
          ⟨(some 35), .fa 1 (.t 34), none, [34]⟩,
          ⟨none, .st 1 (.t 35) (.t 33), none, [35, 33]⟩]))
       (RC.seq (RC.reg [⟨(some 37), .mv (.t 0), none, [0]⟩,
           ⟨(some 38), .call 24 [(.t 37), (.c (.str [42, 41]))], none, [37]⟩,
           ⟨(some 36), .mv (.t 38), none, [38]⟩])
        (RC.cond (.t 36)
         (RC.seq (RC.reg [⟨(some 39), .mv (.t 2), none, [2]⟩,
             ⟨(some 40), .bin (.int .sub) (.t 39) (.c (.int .i64 1)), none, [39]⟩,
             ⟨(some 2), .mv (.t 40), none, [40]⟩])
          (RC.seq (RC.reg [⟨(some 41), .mv (.t 0), none, [0]⟩,
             ⟨(some 42), .nilck (.t 41), none, [41]⟩,
             ⟨(some 43), .fa 1 (.t 42), none, [42]⟩,
             ⟨(some 44), .ld1 (.t 43), none, [43]⟩,
             ⟨(some 45), .bin (.int .add) (.t 44) (.c (.int .i64 2)), none, [44]⟩,
             ⟨(some 46), .nilck (.t 41), none, [41]⟩,
             ⟨(some 47), .fa 1 (.t 46), none, [46]⟩,
             ⟨none, .st 1 (.t 47) (.t 45), none, [47, 45]⟩])
          (RC.seq (RC.reg [⟨(some 48), .mv (.t 2), none, [2]⟩,
             ⟨(some 49), .bin (.int .eql) (.t 48) (.c (.int .i64 0)), none, [48]⟩])
          (RC.cond (.t 49)
           (RC.ret)
           (RC.skip)))))
         (RC.reg [⟨(some 3), .mv (.t 0), none, [0]⟩,
            ⟨(some 4), .nilck (.t 3), none, [3]⟩,
            ⟨(some 5), .fa 1 (.t 4), none, [4]⟩,
            ⟨(some 6), .ld1 (.t 5), none, [5]⟩,
            ⟨(some 7), .bin (.int .add) (.t 6) (.c (.int .i64 1)), none, [6]⟩,
            ⟨(some 8), .nilck (.t 3), none, [3]⟩,
            ⟨(some 9), .fa 1 (.t 8), none, [8]⟩,
            ⟨none, .st 1 (.t 9) (.t 7), none, [9, 7]⟩]))))))))
def c25 : RC :=
  RC.seq (RC.reg [⟨(some 2), .mv (.c (.int .i64 0)), none, []⟩])
  (RC.block 0 (RC.loop c25l1))
theorem c25_ok : resK Tryd.prog Tryd.f25.ntmps (Tryd.f25.body.getD .skip) = c25 := by kernel_rfl
theorem c25_res : resR Tryd.prog Tryd.f25.ntmps Tryd.f25.results.toList = [] := by kernel_rfl
theorem c25_ctr {args : List V} {h : Heap} {K : V → Heap → Prop} (hl : Nat.ble args.length 50 = true) (H : wpC Tryd.prog c25 (RF.ofL args) h fun e r h' => e.ends ∧ ∃ vs, evR r h' [] = some vs ∧ K (oneOf vs) h') : Ctr Tryd.prog 25 args h K :=
  ctr_of_wp follows namesOk Tryd.func25 (c := Tryd.f25.body.getD .skip) (by kernel_rfl) (by kernel_rfl) hl c25_ok c25_res H

/-- (*gimlet/lex.scanner).next -/
def c26l1 : RC :=
  RC.seq (RC.reg [⟨(some 80), .bin (.int .lss) (.t 79) (.t 78), none, [79, 78]⟩])
  (RC.seq (RC.cond (.t 80)
    (RC.skip)
    (RC.exit 1))
  (RC.seq (RC.block 2 (RC.seq (RC.reg [⟨(some 81), .ia 1 (.t 77) (.t 79), none, [77, 79]⟩,
       ⟨(some 82), .ld1 (.t 81), none, [81]⟩,
       ⟨(some 5), .mv (.t 82), none, [82]⟩])
    (RC.seq (RC.reg [⟨(some 83), .mv (.t 0), none, [0]⟩,
       ⟨(some 84), .mv (.t 5), none, [5]⟩,
       ⟨(some 85), .call 24 [(.t 83), (.t 84)], none, [83, 84]⟩])
    (RC.cond (.t 85)
     (RC.seq (RC.reg [⟨(some 86), .mv (.t 0), none, [0]⟩,
         ⟨(some 87), .nilck (.t 86), none, [86]⟩,
         ⟨(some 88), .fa 1 (.t 87), none, [87]⟩,
         ⟨(some 89), .ld1 (.t 88), none, [88]⟩,
         ⟨(some 90), .mv (.t 5), none, [5]⟩,
         ⟨(some 91), .len .str (.t 90), none, [90]⟩,
         ⟨(some 92), .bin (.int .add) (.t 89) (.t 91), none, [89, 91]⟩,
         ⟨(some 93), .nilck (.t 86), none, [86]⟩,
         ⟨(some 94), .fa 1 (.t 93), none, [93]⟩,
         ⟨none, .st 1 (.t 94) (.t 92), none, [94, 92]⟩])
      (RC.seq (RC.reg [⟨(some 95), .mv (.t 5), none, [5]⟩,
         ⟨(some 96), .build [(.int .i64 0), (.int .i64 0), (.int .i64 0), (.str [])] [(0, 1, (.c (.int .i64 7))), (3, 1, (.t 95))], none, [95]⟩,
         ⟨none, .st 4 (.t 2) (.t 96), none, [2, 96]⟩])
      (RC.ret)))
     (RC.skip)))))
  (RC.reg [⟨(some 97), .bin (.int .add) (.t 79) (.c (.int .i64 1)), none, [79]⟩,
    ⟨(some 79), .mv (.t 97), none, [97]⟩])))
def c26 : RC :=
  RC.seq (RC.reg [⟨(some 2), .new [(.int .i64 0), (.int .i64 0), (.int .i64 0), (.str [])], none, []⟩])
  (RC.seq (RC.draw [⟨(some 6), .mv (.t 0), none, [0]⟩,
     ⟨(some 7), .nilck (.t 6), none, [6]⟩,
     ⟨(some 8), .fa 0 (.t 7), none, [7]⟩,
     ⟨(some 9), .ld1 (.t 8), none, [8]⟩,
     ⟨(some 10), .mv (.t 0), none, [0]⟩,
     ⟨(some 11), .nilck (.t 10), none, [10]⟩,
     ⟨(some 12), .fa 1 (.t 11), none, [11]⟩,
     ⟨(some 13), .ld1 (.t 12), none, [12]⟩,
     ⟨(some 14), .ixs (.t 9) (.t 13), none, [9, 13]⟩,
     ⟨(some 3), .mv (.t 14), none, [14]⟩] [])
  (RC.seq (RC.block 0 (RC.seq (RC.reg [⟨(some 16), .mv (.t 3), none, [3]⟩,
       ⟨(some 17), .call 44 [(.t 16)], none, [16]⟩,
       ⟨(some 15), .mv (.t 17), none, [17]⟩])
    (RC.cond (.t 15)
     (RC.seq (RC.reg [⟨(some 18), .mv (.t 0), none, [0]⟩,
         ⟨(some 19), .call 45 [(.t 18)], none, [18]⟩,
         ⟨none, .st 4 (.t 2) (.t 19), none, [2, 19]⟩])
      (RC.ret))
     (RC.seq (RC.reg [⟨(some 21), .mv (.t 3), none, [3]⟩,
         ⟨(some 22), .bin (.int .eql) (.t 21) (.c (.int .u8 34)), none, [21]⟩,
         ⟨(some 20), .mv (.t 22), none, [22]⟩])
      (RC.cond (.t 20)
       (RC.seq (RC.reg [⟨(some 23), .mv (.t 0), none, [0]⟩,
           ⟨(some 24), .call 46 [(.t 23)], none, [23]⟩,
           ⟨none, .st 4 (.t 2) (.t 24), none, [2, 24]⟩])
        (RC.ret))
       (RC.seq (RC.reg [⟨(some 26), .mv (.t 3), none, [3]⟩,
           ⟨(some 27), .call 47 [(.t 26)], none, [26]⟩,
           ⟨(some 28), .mv (.t 27), none, [27]⟩,
           ⟨(some 29), .mv (.t 3), (some (28, false)), [3, 28]⟩,
           ⟨(some 30), .bin (.int .eql) (.t 29) (.c (.int .u8 95)), (some (28, false)), [29, 28]⟩,
           ⟨(some 31), .pick (.t 28) (.c (.bool true)) (.t 30), none, [28, 30]⟩,
           ⟨(some 25), .mv (.t 31), none, [31]⟩])
        (RC.cond (.t 25)
         (RC.seq (RC.reg [⟨(some 32), .mv (.t 0), none, [0]⟩,
             ⟨(some 33), .call 48 [(.t 32), (.c (.int .i64 3))], none, [32]⟩,
             ⟨none, .st 4 (.t 2) (.t 33), none, [2, 33]⟩])
          (RC.ret))
         (RC.seq (RC.reg [⟨(some 35), .mv (.t 3), none, [3]⟩,
             ⟨(some 36), .call 49 [(.t 35)], none, [35]⟩,
             ⟨(some 34), .mv (.t 36), none, [36]⟩])
          (RC.cond (.t 34)
           (RC.seq (RC.reg [⟨(some 37), .mv (.t 0), none, [0]⟩,
               ⟨(some 38), .call 48 [(.t 37), (.c (.int .i64 4))], none, [37]⟩,
               ⟨none, .st 4 (.t 2) (.t 38), none, [2, 38]⟩])
            (RC.ret))
           (RC.seq (RC.draw [⟨(some 40), .mv (.t 3), none, [3]⟩,
               ⟨(some 41), .bin (.int .eql) (.t 40) (.c (.int .u8 39)), none, [40]⟩,
               ⟨(some 42), .mv (.t 41), none, [41]⟩,
               ⟨(some 43), .mv (.t 0), (some (42, true)), [0, 42]⟩,
               ⟨(some 44), .nilck (.t 43), (some (42, true)), [43, 42]⟩,
               ⟨(some 45), .fa 1 (.t 44), (some (42, true)), [44, 42]⟩,
               ⟨(some 46), .ld1 (.t 45), (some (42, true)), [45, 42]⟩,
               ⟨(some 47), .bin (.int .add) (.t 46) (.c (.int .i64 1)), (some (42, true)), [46, 42]⟩,
               ⟨(some 48), .mv (.t 0), (some (42, true)), [0, 42]⟩,
               ⟨(some 49), .nilck (.t 48), (some (42, true)), [48, 42]⟩,
               ⟨(some 50), .fa 0 (.t 49), (some (42, true)), [49, 42]⟩,
               ⟨(some 51), .ld1 (.t 50), (some (42, true)), [50, 42]⟩,
               ⟨(some 52), .len .str (.t 51), (some (42, true)), [51, 42]⟩,
               ⟨(some 53), .bin (.int .lss) (.t 47) (.t 52), (some (42, true)), [47, 52, 42]⟩,
               ⟨(some 54), .pick (.t 42) (.t 53) (.c (.bool false)), none, [42, 53]⟩,
               ⟨(some 55), .mv (.t 54), none, [54]⟩,
               ⟨(some 56), .mv (.t 0), (some (55, true)), [0, 55]⟩,
               ⟨(some 57), .nilck (.t 56), (some (55, true)), [56, 55]⟩,
               ⟨(some 58), .fa 0 (.t 57), (some (55, true)), [57, 55]⟩,
               ⟨(some 59), .ld1 (.t 58), (some (55, true)), [58, 55]⟩,
               ⟨(some 60), .mv (.t 0), (some (55, true)), [0, 55]⟩,
               ⟨(some 61), .nilck (.t 60), (some (55, true)), [60, 55]⟩,
               ⟨(some 62), .fa 1 (.t 61), (some (55, true)), [61, 55]⟩,
               ⟨(some 63), .ld1 (.t 62), (some (55, true)), [62, 55]⟩,
               ⟨(some 64), .bin (.int .add) (.t 63) (.c (.int .i64 1)), (some (55, true)), [63, 55]⟩,
               ⟨(some 65), .ixs (.t 59) (.t 64), (some (55, true)), [59, 64, 55]⟩,
               ⟨(some 66), .call 47 [(.t 65)], (some (55, true)), [65, 55]⟩,
               ⟨(some 67), .pick (.t 55) (.t 66) (.c (.bool false)), none, [55, 66]⟩,
               ⟨(some 39), .mv (.t 67), none, [67]⟩] [(6, [26]), (11, [26]), (19, [26]), (23, [26])])
            (RC.cond (.t 39)
             (RC.seq (RC.reg [⟨(some 68), .mv (.t 0), none, [0]⟩,
                 ⟨(some 69), .nilck (.t 68), none, [68]⟩,
                 ⟨(some 70), .fa 1 (.t 69), none, [69]⟩,
                 ⟨(some 71), .ld1 (.t 70), none, [70]⟩,
                 ⟨(some 72), .bin (.int .add) (.t 71) (.c (.int .i64 1)), none, [71]⟩,
                 ⟨(some 73), .nilck (.t 68), none, [68]⟩,
                 ⟨(some 74), .fa 1 (.t 73), none, [73]⟩,
                 ⟨none, .st 1 (.t 74) (.t 72), none, [74, 72]⟩])
              (RC.seq (RC.reg [⟨(some 75), .mv (.t 0), none, [0]⟩,
                 ⟨(some 76), .call 48 [(.t 75), (.c (.int .i64 5))], none, [75]⟩,
                 ⟨none, .st 4 (.t 2) (.t 76), none, [2, 76]⟩])
              (RC.ret)))
             (RC.skip))))))))))))
  (RC.seq (RC.seq (RC.reg [⟨(some 77), .call 50 [], none, []⟩,
      ⟨(some 78), .len .slice (.t 77), none, [77]⟩,
      ⟨(some 79), .mv (.c (.int .i64 0)), none, []⟩])
   (RC.block 1 (RC.loop c26l1)))
  (RC.seq (RC.reg [⟨(some 98), .mv (.t 0), none, [0]⟩,
     ⟨(some 99), .nilck (.t 98), none, [98]⟩,
     ⟨(some 100), .fa 2 (.t 99), none, [99]⟩,
     ⟨none, .st 1 (.t 100) (.c (.int .i64 251)), none, [100]⟩])
  (RC.seq (RC.reg [⟨(some 101), .build [(.int .i64 0), (.int .i64 0), (.int .i64 0), (.str [])] [], none, []⟩,
     ⟨none, .st 4 (.t 2) (.t 101), none, [2, 101]⟩])
  (RC.ret))))))
theorem c26_ok : resK Tryd.prog Tryd.f26.ntmps (Tryd.f26.body.getD .skip) = c26 := by kernel_rfl
theorem c26_res : resR Tryd.prog Tryd.f26.ntmps Tryd.f26.results.toList = [.cn 2 4] := by kernel_rfl
theorem c26_ctr {args : List V} {h : Heap} {K : V → Heap → Prop} (hl : Nat.ble args.length 102 = true) (H : wpC Tryd.prog c26 (RF.ofL args) h fun e r h' => e.ends ∧ ∃ vs, evR r h' [.cn 2 4] = some vs ∧ K (oneOf vs) h') : Ctr Tryd.prog 26 args h K :=
  ctr_of_wp follows namesOk Tryd.func26 (c := Tryd.f26.body.getD .skip) (by kernel_rfl) (by kernel_rfl) hl c26_ok c26_res H

/-- gimlet/lex.may -/
def c36 : RC :=
  RC.seq (RC.reg [⟨(some 1), .box (.t 0), none, [0]⟩,
     ⟨(some 2), .mv (.c (.bool false)), none, []⟩])
  (RC.seq (RC.seq (RC.reg [⟨(some 3), .fa 0 (.t 1), none, [1]⟩,
      ⟨(some 4), .ld1 (.t 3), none, [3]⟩])
   (RC.block 0 (RC.seq (RC.reg [⟨(some 6), .bin (.int .eql) (.t 4) (.c (.int .i64 1)), none, [4]⟩,
       ⟨(some 5), .mv (.t 6), none, [6]⟩])
    (RC.cond (.t 5)
     (RC.seq (RC.reg [⟨(some 7), .fa 3 (.t 1), none, [1]⟩,
         ⟨(some 8), .ld1 (.t 7), none, [7]⟩,
         ⟨(some 9), .bin (.str .eql) (.t 8) (.c (.str [])), none, [8]⟩,
         ⟨(some 10), .mv (.t 9), none, [9]⟩,
         ⟨(some 11), .fa 1 (.t 1), (some (10, true)), [1, 10]⟩,
         ⟨(some 12), .ld1 (.t 11), (some (10, true)), [11, 10]⟩,
         ⟨(some 13), .bin (.int .geq) (.t 12) (.c (.int .i64 (-1073741824))), (some (10, true)), [12, 10]⟩,
         ⟨(some 14), .pick (.t 10) (.t 13) (.c (.bool false)), none, [10, 13]⟩,
         ⟨(some 15), .mv (.t 14), none, [14]⟩,
         ⟨(some 16), .fa 1 (.t 1), (some (15, true)), [1, 15]⟩,
         ⟨(some 17), .ld1 (.t 16), (some (15, true)), [16, 15]⟩,
         ⟨(some 18), .bin (.int .leq) (.t 17) (.c (.int .i64 1073741823)), (some (15, true)), [17, 15]⟩,
         ⟨(some 19), .pick (.t 15) (.t 18) (.c (.bool false)), none, [15, 18]⟩,
         ⟨(some 2), .mv (.t 19), none, [19]⟩])
      (RC.ret))
     (RC.seq (RC.reg [⟨(some 21), .bin (.int .eql) (.t 4) (.c (.int .i64 2)), none, [4]⟩,
         ⟨(some 20), .mv (.t 21), none, [21]⟩])
      (RC.cond (.t 20)
       (RC.seq (RC.reg [⟨(some 22), .fa 1 (.t 1), none, [1]⟩,
           ⟨(some 23), .ld1 (.t 22), none, [22]⟩,
           ⟨(some 24), .bin (.int .eql) (.t 23) (.c (.int .i64 0)), none, [23]⟩,
           ⟨(some 25), .mv (.t 24), none, [24]⟩,
           ⟨(some 26), .fa 3 (.t 1), (some (25, true)), [1, 25]⟩,
           ⟨(some 27), .ld1 (.t 26), (some (25, true)), [26, 25]⟩,
           ⟨(some 28), .len .str (.t 27), (some (25, true)), [27, 25]⟩,
           ⟨(some 29), .bin (.int .leq) (.t 28) (.c (.int .i64 4096)), (some (25, true)), [28, 25]⟩,
           ⟨(some 30), .pick (.t 25) (.t 29) (.c (.bool false)), none, [25, 29]⟩,
           ⟨(some 2), .mv (.t 30), none, [30]⟩])
        (RC.ret))
       (RC.seq (RC.seq (RC.reg [⟨(some 32), .bin (.int .eql) (.t 4) (.c (.int .i64 3)), none, [4]⟩,
            ⟨(some 31), .mv (.t 32), none, [32]⟩])
         (RC.cond (.t 31)
          (RC.skip)
          (RC.seq (RC.reg [⟨(some 33), .bin (.int .eql) (.t 4) (.c (.int .i64 4)), none, [4]⟩,
              ⟨(some 31), .mv (.t 33), none, [33]⟩])
           (RC.cond (.t 31)
            (RC.skip)
            (RC.reg [⟨(some 34), .bin (.int .eql) (.t 4) (.c (.int .i64 5)), none, [4]⟩,
               ⟨(some 31), .mv (.t 34), none, [34]⟩])))))
        (RC.cond (.t 31)
         (RC.seq (RC.reg [⟨(some 35), .fa 1 (.t 1), none, [1]⟩,
             ⟨(some 36), .ld1 (.t 35), none, [35]⟩,
             ⟨(some 37), .bin (.int .eql) (.t 36) (.c (.int .i64 0)), none, [36]⟩,
             ⟨(some 38), .mv (.t 37), none, [37]⟩,
             ⟨(some 39), .fa 0 (.t 1), (some (38, true)), [1, 38]⟩,
             ⟨(some 40), .ld1 (.t 39), (some (38, true)), [39, 38]⟩,
             ⟨(some 41), .fa 3 (.t 1), (some (38, true)), [1, 38]⟩,
             ⟨(some 42), .ld1 (.t 41), (some (38, true)), [41, 38]⟩,
             ⟨(some 43), .call 62 [(.t 40), (.t 42)], (some (38, true)), [40, 42, 38]⟩,
             ⟨(some 44), .pick (.t 38) (.t 43) (.c (.bool false)), none, [38, 43]⟩,
             ⟨(some 2), .mv (.t 44), none, [44]⟩])
          (RC.ret))
         (RC.seq (RC.reg [⟨(some 46), .bin (.int .eql) (.t 4) (.c (.int .i64 6)), none, [4]⟩,
             ⟨(some 45), .mv (.t 46), none, [46]⟩])
          (RC.cond (.t 45)
           (RC.seq (RC.reg [⟨(some 47), .fa 1 (.t 1), none, [1]⟩,
               ⟨(some 48), .ld1 (.t 47), none, [47]⟩,
               ⟨(some 49), .bin (.int .eql) (.t 48) (.c (.int .i64 0)), none, [48]⟩,
               ⟨(some 50), .mv (.t 49), none, [49]⟩,
               ⟨(some 51), .fa 3 (.t 1), (some (50, true)), [1, 50]⟩,
               ⟨(some 52), .ld1 (.t 51), (some (50, true)), [51, 50]⟩,
               ⟨(some 53), .bin (.str .neq) (.t 52) (.c (.str [])), (some (50, true)), [52, 50]⟩,
               ⟨(some 54), .pick (.t 50) (.t 53) (.c (.bool false)), none, [50, 53]⟩,
               ⟨(some 55), .mv (.t 54), none, [54]⟩,
               ⟨(some 56), .fa 3 (.t 1), (some (55, true)), [1, 55]⟩,
               ⟨(some 57), .ld1 (.t 56), (some (55, true)), [56, 55]⟩,
               ⟨(some 58), .call 63 [(.t 57), (.c (.str [32]))], (some (55, true)), [57, 55]⟩,
               ⟨(some 59), .un .not (.t 58), (some (55, true)), [58, 55]⟩,
               ⟨(some 60), .pick (.t 55) (.t 59) (.c (.bool false)), none, [55, 59]⟩,
               ⟨(some 61), .mv (.t 60), none, [60]⟩,
               ⟨(some 62), .fa 3 (.t 1), (some (61, true)), [1, 61]⟩,
               ⟨(some 63), .ld1 (.t 62), (some (61, true)), [62, 61]⟩,
               ⟨(some 64), .bin (.str .add) (.c (.str [32])) (.t 63), (some (61, true)), [63, 61]⟩,
               ⟨(some 65), .bin (.str .add) (.t 64) (.c (.str [32])), (some (61, true)), [64, 61]⟩,
               ⟨(some 66), .call 63 [(.c (.str [32, 97, 110, 100, 32, 98, 101, 103, 105, 110, 32, 101, 108, 115, 101, 32, 101, 110, 100, 32, 101, 120, 99, 101, 112, 116, 105, 111, 110, 32, 102, 97, 108, 115, 101, 32, 102, 117, 110, 32, 105, 102, 32, 105, 110, 32, 108, 101, 116, 32, 109, 97, 116, 99, 104, 32, 109, 111, 100, 32, 111, 102, 32, 114, 97, 105, 115, 101, 32, 114, 101, 99, 32, 116, 104, 101, 110, 32, 116, 114, 117, 101, 32, 116, 114, 121, 32, 116, 121, 112, 101, 32, 119, 105, 116, 104, 32])), (.t 65)], (some (61, true)), [65, 61]⟩,
               ⟨(some 67), .pick (.t 61) (.t 66) (.c (.bool false)), none, [61, 66]⟩,
               ⟨(some 2), .mv (.t 67), none, [67]⟩])
            (RC.ret))
           (RC.seq (RC.reg [⟨(some 69), .bin (.int .eql) (.t 4) (.c (.int .i64 7)), none, [4]⟩,
               ⟨(some 68), .mv (.t 69), none, [69]⟩])
            (RC.cond (.t 68)
             (RC.seq (RC.draw [⟨(some 70), .fa 1 (.t 1), none, [1]⟩,
                 ⟨(some 71), .ld1 (.t 70), none, [70]⟩,
                 ⟨(some 72), .bin (.int .eql) (.t 71) (.c (.int .i64 0)), none, [71]⟩,
                 ⟨(some 73), .mv (.t 72), none, [72]⟩,
                 ⟨(some 75), .fa 3 (.t 1), (some (73, true)), [1, 73]⟩,
                 ⟨(some 76), .ld1 (.t 75), (some (73, true)), [75, 73]⟩,
                 ⟨(some 74), .call 50 [], (some (73, true)), [73]⟩,
                 ⟨(some 77), .call 64 [(.t 74), (.t 76)], (some (73, true)), [74, 76, 73]⟩,
                 ⟨(some 78), .pick (.t 73) (.t 77) (.c (.bool false)), none, [73, 77]⟩,
                 ⟨(some 2), .mv (.t 78), none, [78]⟩] [(1, [6]), (5, [6, 7])])
              (RC.ret))
             (RC.skip)))))))))))))
  (RC.seq (RC.reg [⟨(some 2), .mv (.c (.bool false)), none, []⟩])
  (RC.ret)))
theorem c36_ok : resK Tryd.prog Tryd.f36.ntmps (Tryd.f36.body.getD .skip) = c36 := by kernel_rfl
theorem c36_res : resR Tryd.prog Tryd.f36.ntmps Tryd.f36.results.toList = [.t 2] := by kernel_rfl
theorem c36_ctr {args : List V} {h : Heap} {K : V → Heap → Prop} (hl : Nat.ble args.length 79 = true) (H : wpC Tryd.prog c36 (RF.ofL args) h fun e r h' => e.ends ∧ ∃ vs, evR r h' [.t 2] = some vs ∧ K (oneOf vs) h') : Ctr Tryd.prog 36 args h K :=
  ctr_of_wp follows namesOk Tryd.func36 (c := Tryd.f36.body.getD .skip) (by kernel_rfl) (by kernel_rfl) hl c36_ok c36_res H

/-- gimlet/lex.quoted -/
def c38l1 : RC :=
  RC.seq (RC.reg [⟨(some 11), .bin (.int .lss) (.t 10) (.t 9), none, [10, 9]⟩])
  (RC.seq (RC.cond (.t 11)
    (RC.skip)
    (RC.exit 0))
  (RC.seq (RC.block 1 (RC.seq (RC.reg [⟨(some 12), .ia 1 (.t 8) (.t 10), none, [8, 10]⟩,
       ⟨(some 13), .ld1 (.t 12), none, [12]⟩,
       ⟨(some 5), .mv (.t 13), none, [13]⟩])
    (RC.block 2 (RC.seq (RC.reg [⟨(some 19), .mv (.t 5), none, [5]⟩,
        ⟨(some 20), .bin (.int .eql) (.t 19) (.c (.int .u8 34)), none, [19]⟩,
        ⟨(some 21), .mv (.t 20), none, [20]⟩,
        ⟨(some 22), .mv (.t 5), (some (21, false)), [5, 21]⟩,
        ⟨(some 23), .bin (.int .eql) (.t 22) (.c (.int .u8 92)), (some (21, false)), [22, 21]⟩,
        ⟨(some 24), .pick (.t 21) (.c (.bool true)) (.t 23), none, [21, 23]⟩,
        ⟨(some 18), .mv (.t 24), none, [24]⟩])
     (RC.cond (.t 18)
      (RC.reg [⟨(some 25), .mv (.t 3), none, [3]⟩,
         ⟨(some 26), .mv (.t 5), none, [5]⟩,
         ⟨(some 27), .bsl 2 1 [(.int .u8 0)] [(0, 1, (.c (.int .u8 92))), (1, 1, (.t 26))], none, [26]⟩,
         ⟨(some 28), .app 1 (.t 25) (.t 27), none, [25, 27]⟩,
         ⟨(some 3), .mv (.t 28), none, [28]⟩])
      (RC.seq (RC.reg [⟨(some 30), .mv (.t 5), none, [5]⟩,
          ⟨(some 31), .bin (.int .lss) (.t 30) (.c (.int .u8 32)), none, [30]⟩,
          ⟨(some 32), .mv (.t 31), none, [31]⟩,
          ⟨(some 33), .mv (.t 5), (some (32, false)), [5, 32]⟩,
          ⟨(some 34), .bin (.int .geq) (.t 33) (.c (.int .u8 127)), (some (32, false)), [33, 32]⟩,
          ⟨(some 35), .pick (.t 32) (.c (.bool true)) (.t 34), none, [32, 34]⟩,
          ⟨(some 29), .mv (.t 35), none, [35]⟩])
       (RC.cond (.t 29)
        (RC.reg [⟨(some 36), .mv (.t 3), none, [3]⟩,
           ⟨(some 37), .mv (.t 5), none, [5]⟩,
           ⟨(some 38), .bin (.int .quo) (.t 37) (.c (.int .u8 100)), none, [37]⟩,
           ⟨(some 39), .bin (.int .add) (.c (.int .u8 48)) (.t 38), none, [38]⟩,
           ⟨(some 40), .mv (.t 5), none, [5]⟩,
           ⟨(some 41), .bin (.int .quo) (.t 40) (.c (.int .u8 10)), none, [40]⟩,
           ⟨(some 42), .bin (.int .rem) (.t 41) (.c (.int .u8 10)), none, [41]⟩,
           ⟨(some 43), .bin (.int .add) (.c (.int .u8 48)) (.t 42), none, [42]⟩,
           ⟨(some 44), .mv (.t 5), none, [5]⟩,
           ⟨(some 45), .bin (.int .rem) (.t 44) (.c (.int .u8 10)), none, [44]⟩,
           ⟨(some 46), .bin (.int .add) (.c (.int .u8 48)) (.t 45), none, [45]⟩,
           ⟨(some 47), .bsl 4 1 [(.int .u8 0)] [(0, 1, (.c (.int .u8 92))), (1, 1, (.t 39)), (2, 1, (.t 43)), (3, 1, (.t 46))], none, [39, 43, 46]⟩,
           ⟨(some 48), .app 1 (.t 36) (.t 47), none, [36, 47]⟩,
           ⟨(some 3), .mv (.t 48), none, [48]⟩])
        (RC.reg [⟨(some 14), .mv (.t 3), none, [3]⟩,
           ⟨(some 15), .mv (.t 5), none, [5]⟩,
           ⟨(some 16), .bsl 1 1 [(.int .u8 0)] [(0, 1, (.t 15))], none, [15]⟩,
           ⟨(some 17), .app 1 (.t 14) (.t 16), none, [14, 16]⟩,
           ⟨(some 3), .mv (.t 17), none, [17]⟩]))))))))
  (RC.reg [⟨(some 49), .bin (.int .add) (.t 10) (.c (.int .i64 1)), none, [10]⟩,
    ⟨(some 10), .mv (.t 49), none, [49]⟩])))
def c38 : RC :=
  RC.seq (RC.reg [⟨(some 2), .mv (.c (.str [])), none, []⟩])
  (RC.seq (RC.reg [⟨(some 6), .bsl 1 1 [(.int .u8 0)] [(0, 1, (.c (.int .u8 34)))], none, []⟩,
     ⟨(some 3), .mv (.t 6), none, [6]⟩])
  (RC.seq (RC.seq (RC.reg [⟨(some 7), .mv (.t 0), none, [0]⟩,
      ⟨(some 8), .cv .bytes (.t 7), none, [7]⟩,
      ⟨(some 9), .len .slice (.t 8), none, [8]⟩,
      ⟨(some 10), .mv (.c (.int .i64 0)), none, []⟩])
   (RC.block 0 (RC.loop c38l1)))
  (RC.seq (RC.reg [⟨(some 50), .mv (.t 3), none, [3]⟩,
     ⟨(some 51), .bsl 1 1 [(.int .u8 0)] [(0, 1, (.c (.int .u8 34)))], none, []⟩,
     ⟨(some 52), .app 1 (.t 50) (.t 51), none, [50, 51]⟩,
     ⟨(some 53), .cv .str (.t 52), none, [52]⟩,
     ⟨(some 2), .mv (.t 53), none, [53]⟩])
  (RC.ret))))
theorem c38_ok : resK Tryd.prog Tryd.f38.ntmps (Tryd.f38.body.getD .skip) = c38 := by kernel_rfl
theorem c38_res : resR Tryd.prog Tryd.f38.ntmps Tryd.f38.results.toList = [.t 2] := by kernel_rfl
theorem c38_ctr {args : List V} {h : Heap} {K : V → Heap → Prop} (hl : Nat.ble args.length 54 = true) (H : wpC Tryd.prog c38 (RF.ofL args) h fun e r h' => e.ends ∧ ∃ vs, evR r h' [.t 2] = some vs ∧ K (oneOf vs) h') : Ctr Tryd.prog 38 args h K :=
  ctr_of_wp follows namesOk Tryd.func38 (c := Tryd.f38.body.getD .skip) (by kernel_rfl) (by kernel_rfl) hl c38_ok c38_res H

/-- internal/stringslite.IndexByte -/
def c42 : RC :=
  RC.seq (RC.reg [⟨(some 4), .mv (.c (.int .i64 0)), none, []⟩])
  (RC.seq (RC.reg [⟨(some 5), .mv (.t 0), none, [0]⟩,
     ⟨(some 6), .mv (.t 1), none, [1]⟩,
     ⟨(some 7), .call 72 [(.t 5), (.t 6)], none, [5, 6]⟩,
     ⟨(some 4), .mv (.t 7), none, [7]⟩])
  (RC.ret))
theorem c42_ok : resK Tryd.prog Tryd.f42.ntmps (Tryd.f42.body.getD .skip) = c42 := by kernel_rfl
theorem c42_res : resR Tryd.prog Tryd.f42.ntmps Tryd.f42.results.toList = [.t 4] := by kernel_rfl
theorem c42_ctr {args : List V} {h : Heap} {K : V → Heap → Prop} (hl : Nat.ble args.length 8 = true) (H : wpC Tryd.prog c42 (RF.ofL args) h fun e r h' => e.ends ∧ ∃ vs, evR r h' [.t 4] = some vs ∧ K (oneOf vs) h') : Ctr Tryd.prog 42 args h K :=
  ctr_of_wp follows namesOk Tryd.func42 (c := Tryd.f42.body.getD .skip) (by kernel_rfl) (by kernel_rfl) hl c42_ok c42_res H

/-- strings.HasPrefix -/
def c43 : RC :=
  RC.seq (RC.reg [⟨(some 4), .mv (.c (.bool false)), none, []⟩])
  (RC.seq (RC.reg [⟨(some 5), .mv (.t 0), none, [0]⟩,
     ⟨(some 6), .mv (.t 1), none, [1]⟩,
     ⟨(some 7), .call 73 [(.t 5), (.t 6)], none, [5, 6]⟩,
     ⟨(some 4), .mv (.t 7), none, [7]⟩])
  (RC.ret))
theorem c43_ok : resK Tryd.prog Tryd.f43.ntmps (Tryd.f43.body.getD .skip) = c43 := by kernel_rfl
theorem c43_res : resR Tryd.prog Tryd.f43.ntmps Tryd.f43.results.toList = [.t 4] := by kernel_rfl
theorem c43_ctr {args : List V} {h : Heap} {K : V → Heap → Prop} (hl : Nat.ble args.length 8 = true) (H : wpC Tryd.prog c43 (RF.ofL args) h fun e r h' => e.ends ∧ ∃ vs, evR r h' [.t 4] = some vs ∧ K (oneOf vs) h') : Ctr Tryd.prog 43 args h K :=
  ctr_of_wp follows namesOk Tryd.func43 (c := Tryd.f43.body.getD .skip) (by kernel_rfl) (by kernel_rfl) hl c43_ok c43_res H

/-- gimlet/lex.digit -/
def c44 : RC :=
  RC.seq (RC.reg [⟨(some 2), .mv (.c (.bool false)), none, []⟩])
  (RC.seq (RC.reg [⟨(some 3), .mv (.t 0), none, [0]⟩,
     ⟨(some 4), .bin (.int .geq) (.t 3) (.c (.int .u8 48)), none, [3]⟩,
     ⟨(some 5), .mv (.t 4), none, [4]⟩,
     ⟨(some 6), .mv (.t 0), (some (5, true)), [0, 5]⟩,
     ⟨(some 7), .bin (.int .leq) (.t 6) (.c (.int .u8 57)), (some (5, true)), [6, 5]⟩,
     ⟨(some 8), .pick (.t 5) (.t 7) (.c (.bool false)), none, [5, 7]⟩,
     ⟨(some 2), .mv (.t 8), none, [8]⟩])
  (RC.ret))
theorem c44_ok : resK Tryd.prog Tryd.f44.ntmps (Tryd.f44.body.getD .skip) = c44 := by kernel_rfl
theorem c44_res : resR Tryd.prog Tryd.f44.ntmps Tryd.f44.results.toList = [.t 2] := by kernel_rfl
theorem c44_ctr {args : List V} {h : Heap} {K : V → Heap → Prop} (hl : Nat.ble args.length 9 = true) (H : wpC Tryd.prog c44 (RF.ofL args) h fun e r h' => e.ends ∧ ∃ vs, evR r h' [.t 2] = some vs ∧ K (oneOf vs) h') : Ctr Tryd.prog 44 args h K :=
  ctr_of_wp follows namesOk Tryd.func44 (c := Tryd.f44.body.getD .skip) (by kernel_rfl) (by kernel_rfl) hl c44_ok c44_res H

/-- (*gimlet/lex.scanner).number -/
def c45 : RC :=
  RC.seq (RC.reg [⟨(some 2), .new [(.int .i64 0), (.int .i64 0), (.int .i64 0), (.str [])], none, []⟩])
  (RC.seq (RC.reg [⟨(some 7), .mv (.t 0), none, [0]⟩,
     ⟨(some 8), .call 75 [(.t 7), (.c (.func 44 []))], none, [7]⟩,
     ⟨(some 9), .call 74 [(.t 8), (.c (.int .i64 10)), (.c (.int .i64 64))], none, [8]⟩,
     ⟨(some 6), .mv (.t 9), none, [9]⟩,
     ⟨(some 10), .ext (.t 6) 0, none, [6]⟩,
     ⟨(some 11), .ext (.t 6) 1, none, [6]⟩,
     ⟨(some 3), .mv (.t 10), none, [10]⟩,
     ⟨(some 4), .mv (.t 11), none, [11]⟩])
  (RC.seq (RC.seq (RC.reg [⟨(some 12), .mv (.t 4), none, [4]⟩,
      ⟨(some 13), .bin (.eqn true 5) (.t 12) (.c .nilIface), none, [12]⟩,
      ⟨(some 14), .mv (.t 13), none, [13]⟩,
      ⟨(some 15), .mv (.t 3), (some (14, false)), [3, 14]⟩,
      ⟨(some 16), .bin (.int .gtr) (.t 15) (.c (.int .u64 2147483647)), (some (14, false)), [15, 14]⟩,
      ⟨(some 17), .pick (.t 14) (.c (.bool true)) (.t 16), none, [14, 16]⟩])
   (RC.cond (.t 17)
    (RC.seq (RC.reg [⟨(some 18), .mv (.t 0), none, [0]⟩,
        ⟨(some 19), .nilck (.t 18), none, [18]⟩,
        ⟨(some 20), .fa 2 (.t 19), none, [19]⟩,
        ⟨none, .st 1 (.t 20) (.c (.int .i64 254)), none, [20]⟩])
     (RC.seq (RC.reg [⟨(some 21), .build [(.int .i64 0), (.int .i64 0), (.int .i64 0), (.str [])] [], none, []⟩,
        ⟨none, .st 4 (.t 2) (.t 21), none, [2, 21]⟩])
     (RC.ret)))
    (RC.skip)))
  (RC.seq (RC.reg [⟨(some 22), .mv (.t 3), none, [3]⟩,
     ⟨(some 23), .cv (.int .i64) (.t 22), none, [22]⟩,
     ⟨(some 5), .mv (.t 23), none, [23]⟩])
  (RC.seq (RC.seq (RC.reg [⟨(some 24), .mv (.t 5), none, [5]⟩,
      ⟨(some 25), .bin (.int .gtr) (.t 24) (.c (.int .i64 1073741823)), none, [24]⟩])
   (RC.cond (.t 25)
    (RC.reg [⟨(some 26), .mv (.t 5), none, [5]⟩,
       ⟨(some 27), .bin (.int .sub) (.t 26) (.c (.int .i64 2147483648)), none, [26]⟩,
       ⟨(some 5), .mv (.t 27), none, [27]⟩])
    (RC.skip)))
  (RC.seq (RC.reg [⟨(some 28), .mv (.t 5), none, [5]⟩,
     ⟨(some 29), .build [(.int .i64 0), (.int .i64 0), (.int .i64 0), (.str [])] [(0, 1, (.c (.int .i64 1))), (1, 1, (.t 28))], none, [28]⟩,
     ⟨none, .st 4 (.t 2) (.t 29), none, [2, 29]⟩])
  (RC.ret))))))
theorem c45_ok : resK Tryd.prog Tryd.f45.ntmps (Tryd.f45.body.getD .skip) = c45 := by kernel_rfl
theorem c45_res : resR Tryd.prog Tryd.f45.ntmps Tryd.f45.results.toList = [.cn 2 4] := by kernel_rfl
theorem c45_ctr {args : List V} {h : Heap} {K : V → Heap → Prop} (hl : Nat.ble args.length 30 = true) (H : wpC Tryd.prog c45 (RF.ofL args) h fun e r h' => e.ends ∧ ∃ vs, evR r h' [.cn 2 4] = some vs ∧ K (oneOf vs) h') : Ctr Tryd.prog 45 args h K :=
  ctr_of_wp follows namesOk Tryd.func45 (c := Tryd.f45.body.getD .skip) (by kernel_rfl) (by kernel_rfl) hl c45_ok c45_res H

/-- (*gimlet/lex.scanner).text -/
def c46l1 : RC :=
  RC.seq (RC.seq (RC.reg [⟨(some 12), .mv (.t 0), none, [0]⟩,
      ⟨(some 13), .nilck (.t 12), none, [12]⟩,
      ⟨(some 14), .fa 2 (.t 13), none, [13]⟩,
      ⟨(some 15), .ld1 (.t 14), none, [14]⟩,
      ⟨(some 16), .bin (.int .eql) (.t 15) (.c (.int .i64 0)), none, [15]⟩])
   (RC.cond (.t 16)
    (RC.skip)
    (RC.exit 0)))
  (RC.block 1 (RC.seq (RC.seq (RC.draw [⟨(some 17), .mv (.t 0), none, [0]⟩,
       ⟨(some 18), .nilck (.t 17), none, [17]⟩,
       ⟨(some 19), .fa 1 (.t 18), none, [18]⟩,
       ⟨(some 20), .ld1 (.t 19), none, [19]⟩,
       ⟨(some 21), .mv (.t 0), none, [0]⟩,
       ⟨(some 22), .nilck (.t 21), none, [21]⟩,
       ⟨(some 23), .fa 0 (.t 22), none, [22]⟩,
       ⟨(some 24), .ld1 (.t 23), none, [23]⟩,
       ⟨(some 25), .len .str (.t 24), none, [24]⟩,
       ⟨(some 26), .bin (.int .geq) (.t 20) (.t 25), none, [20, 25]⟩] [])
    (RC.cond (.t 26)
     (RC.seq (RC.reg [⟨(some 27), .mv (.t 0), none, [0]⟩,
         ⟨(some 28), .nilck (.t 27), none, [27]⟩,
         ⟨(some 29), .fa 2 (.t 28), none, [28]⟩,
         ⟨none, .st 1 (.t 29) (.c (.int .i64 252)), none, [29]⟩])
      (RC.exit 0))
     (RC.skip)))
   (RC.seq (RC.draw [⟨(some 30), .mv (.t 0), none, [0]⟩,
      ⟨(some 31), .nilck (.t 30), none, [30]⟩,
      ⟨(some 32), .fa 0 (.t 31), none, [31]⟩,
      ⟨(some 33), .ld1 (.t 32), none, [32]⟩,
      ⟨(some 34), .mv (.t 0), none, [0]⟩,
      ⟨(some 35), .nilck (.t 34), none, [34]⟩,
      ⟨(some 36), .fa 1 (.t 35), none, [35]⟩,
      ⟨(some 37), .ld1 (.t 36), none, [36]⟩,
      ⟨(some 38), .ixs (.t 33) (.t 37), none, [33, 37]⟩,
      ⟨(some 4), .mv (.t 38), none, [38]⟩] [])
   (RC.block 2 (RC.seq (RC.reg [⟨(some 51), .mv (.t 4), none, [4]⟩,
       ⟨(some 52), .bin (.int .eql) (.t 51) (.c (.int .u8 34)), none, [51]⟩,
       ⟨(some 50), .mv (.t 52), none, [52]⟩])
    (RC.cond (.t 50)
     (RC.seq (RC.reg [⟨(some 53), .mv (.t 0), none, [0]⟩,
         ⟨(some 54), .nilck (.t 53), none, [53]⟩,
         ⟨(some 55), .fa 1 (.t 54), none, [54]⟩,
         ⟨(some 56), .ld1 (.t 55), none, [55]⟩,
         ⟨(some 57), .bin (.int .add) (.t 56) (.c (.int .i64 1)), none, [56]⟩,
         ⟨(some 58), .nilck (.t 53), none, [53]⟩,
         ⟨(some 59), .fa 1 (.t 58), none, [58]⟩,
         ⟨none, .st 1 (.t 59) (.t 57), none, [59, 57]⟩])
      (RC.seq (RC.seq (RC.reg [⟨(some 60), .mv (.t 3), none, [3]⟩,
          ⟨(some 61), .len .slice (.t 60), none, [60]⟩,
          ⟨(some 62), .bin (.int .gtr) (.t 61) (.c (.int .i64 4096)), none, [61]⟩])
       (RC.cond (.t 62)
        (RC.reg [⟨(some 63), .mv (.t 0), none, [0]⟩,
           ⟨(some 64), .nilck (.t 63), none, [63]⟩,
           ⟨(some 65), .fa 2 (.t 64), none, [64]⟩,
           ⟨none, .st 1 (.t 65) (.c (.int .i64 255)), none, [65]⟩])
        (RC.skip)))
      (RC.seq (RC.reg [⟨(some 66), .mv (.t 3), none, [3]⟩,
         ⟨(some 67), .cv .str (.t 66), none, [66]⟩,
         ⟨(some 68), .build [(.int .i64 0), (.int .i64 0), (.int .i64 0), (.str [])] [(0, 1, (.c (.int .i64 2))), (3, 1, (.t 67))], none, [67]⟩,
         ⟨none, .st 4 (.t 2) (.t 68), none, [2, 68]⟩])
      (RC.ret))))
     (RC.seq (RC.reg [⟨(some 70), .mv (.t 4), none, [4]⟩,
         ⟨(some 71), .bin (.int .eql) (.t 70) (.c (.int .u8 92)), none, [70]⟩,
         ⟨(some 69), .mv (.t 71), none, [71]⟩])
      (RC.cond (.t 69)
       (RC.reg [⟨(some 72), .mv (.t 3), none, [3]⟩,
          ⟨(some 73), .mv (.t 0), none, [0]⟩,
          ⟨(some 74), .call 76 [(.t 73)], none, [73]⟩,
          ⟨(some 75), .bsl 1 1 [(.int .u8 0)] [(0, 1, (.t 74))], none, [74]⟩,
          ⟨(some 76), .app 1 (.t 72) (.t 75), none, [72, 75]⟩,
          ⟨(some 3), .mv (.t 76), none, [76]⟩])
       (RC.seq (RC.reg [⟨(some 78), .mv (.t 4), none, [4]⟩,
           ⟨(some 79), .bin (.int .lss) (.t 78) (.c (.int .u8 32)), none, [78]⟩,
           ⟨(some 80), .mv (.t 79), none, [79]⟩,
           ⟨(some 81), .mv (.t 4), (some (80, false)), [4, 80]⟩,
           ⟨(some 82), .bin (.int .eql) (.t 81) (.c (.int .u8 127)), (some (80, false)), [81, 80]⟩,
           ⟨(some 83), .pick (.t 80) (.c (.bool true)) (.t 82), none, [80, 82]⟩,
           ⟨(some 77), .mv (.t 83), none, [83]⟩])
        (RC.cond (.t 77)
         (RC.reg [⟨(some 84), .mv (.t 0), none, [0]⟩,
            ⟨(some 85), .nilck (.t 84), none, [84]⟩,
            ⟨(some 86), .fa 2 (.t 85), none, [85]⟩,
            ⟨none, .st 1 (.t 86) (.c (.int .i64 252)), none, [86]⟩])
         (RC.seq (RC.reg [⟨(some 39), .mv (.t 0), none, [0]⟩,
             ⟨(some 40), .nilck (.t 39), none, [39]⟩,
             ⟨(some 41), .fa 1 (.t 40), none, [40]⟩,
             ⟨(some 42), .ld1 (.t 41), none, [41]⟩,
             ⟨(some 43), .bin (.int .add) (.t 42) (.c (.int .i64 1)), none, [42]⟩,
             ⟨(some 44), .nilck (.t 39), none, [39]⟩,
             ⟨(some 45), .fa 1 (.t 44), none, [44]⟩,
             ⟨none, .st 1 (.t 45) (.t 43), none, [45, 43]⟩])
          (RC.reg [⟨(some 46), .mv (.t 3), none, [3]⟩,
            ⟨(some 47), .mv (.t 4), none, [4]⟩,
            ⟨(some 48), .bsl 1 1 [(.int .u8 0)] [(0, 1, (.t 47))], none, [47]⟩,
            ⟨(some 49), .app 1 (.t 46) (.t 48), none, [46, 48]⟩,
            ⟨(some 3), .mv (.t 49), none, [49]⟩]))))))))))))
def c46 : RC :=
  RC.seq (RC.reg [⟨(some 2), .new [(.int .i64 0), (.int .i64 0), (.int .i64 0), (.str [])], none, []⟩])
  (RC.seq (RC.reg [⟨(some 5), .mv (.t 0), none, [0]⟩,
     ⟨(some 6), .nilck (.t 5), none, [5]⟩,
     ⟨(some 7), .fa 1 (.t 6), none, [6]⟩,
     ⟨(some 8), .ld1 (.t 7), none, [7]⟩,
     ⟨(some 9), .bin (.int .add) (.t 8) (.c (.int .i64 1)), none, [8]⟩,
     ⟨(some 10), .nilck (.t 5), none, [5]⟩,
     ⟨(some 11), .fa 1 (.t 10), none, [10]⟩,
     ⟨none, .st 1 (.t 11) (.t 9), none, [11, 9]⟩])
  (RC.seq (RC.reg [⟨(some 3), .mv (.c .nilslice), none, []⟩])
  (RC.seq (RC.block 0 (RC.loop c46l1))
  (RC.seq (RC.reg [⟨(some 87), .build [(.int .i64 0), (.int .i64 0), (.int .i64 0), (.str [])] [], none, []⟩,
     ⟨none, .st 4 (.t 2) (.t 87), none, [2, 87]⟩])
  (RC.ret)))))
theorem c46_ok : resK Tryd.prog Tryd.f46.ntmps (Tryd.f46.body.getD .skip) = c46 := by kernel_rfl
theorem c46_res : resR Tryd.prog Tryd.f46.ntmps Tryd.f46.results.toList = [.cn 2 4] := by kernel_rfl
theorem c46_ctr {args : List V} {h : Heap} {K : V → Heap → Prop} (hl : Nat.ble args.length 88 = true) (H : wpC Tryd.prog c46 (RF.ofL args) h fun e r h' => e.ends ∧ ∃ vs, evR r h' [.cn 2 4] = some vs ∧ K (oneOf vs) h') : Ctr Tryd.prog 46 args h K :=
  ctr_of_wp follows namesOk Tryd.func46 (c := Tryd.f46.body.getD .skip) (by kernel_rfl) (by kernel_rfl) hl c46_ok c46_res H

/-- gimlet/lex.small -/
def c47 : RC :=
  RC.seq (RC.reg [⟨(some 2), .mv (.c (.bool false)), none, []⟩])
  (RC.seq (RC.reg [⟨(some 3), .mv (.t 0), none, [0]⟩,
     ⟨(some 4), .bin (.int .geq) (.t 3) (.c (.int .u8 97)), none, [3]⟩,
     ⟨(some 5), .mv (.t 4), none, [4]⟩,
     ⟨(some 6), .mv (.t 0), (some (5, true)), [0, 5]⟩,
     ⟨(some 7), .bin (.int .leq) (.t 6) (.c (.int .u8 122)), (some (5, true)), [6, 5]⟩,
     ⟨(some 8), .pick (.t 5) (.t 7) (.c (.bool false)), none, [5, 7]⟩,
     ⟨(some 2), .mv (.t 8), none, [8]⟩])
  (RC.ret))
theorem c47_ok : resK Tryd.prog Tryd.f47.ntmps (Tryd.f47.body.getD .skip) = c47 := by kernel_rfl
theorem c47_res : resR Tryd.prog Tryd.f47.ntmps Tryd.f47.results.toList = [.t 2] := by kernel_rfl
theorem c47_ctr {args : List V} {h : Heap} {K : V → Heap → Prop} (hl : Nat.ble args.length 9 = true) (H : wpC Tryd.prog c47 (RF.ofL args) h fun e r h' => e.ends ∧ ∃ vs, evR r h' [.t 2] = some vs ∧ K (oneOf vs) h') : Ctr Tryd.prog 47 args h K :=
  ctr_of_wp follows namesOk Tryd.func47 (c := Tryd.f47.body.getD .skip) (by kernel_rfl) (by kernel_rfl) hl c47_ok c47_res H

/-- (*gimlet/lex.scanner).name -/
def c48 : RC :=
  RC.seq (RC.reg [⟨(some 4), .new [(.int .i64 0), (.int .i64 0), (.int .i64 0), (.str [])], none, []⟩])
  (RC.seq (RC.reg [⟨(some 6), .mv (.t 0), none, [0]⟩,
     ⟨(some 7), .call 75 [(.t 6), (.c (.func 77 []))], none, [6]⟩,
     ⟨(some 5), .mv (.t 7), none, [7]⟩])
  (RC.seq (RC.block 0 (RC.seq (RC.reg [⟨(some 9), .mv (.t 1), none, [1]⟩,
       ⟨(some 10), .bin (.int .eql) (.t 9) (.c (.int .i64 3)), none, [9]⟩,
       ⟨(some 11), .mv (.t 10), none, [10]⟩,
       ⟨(some 12), .mv (.t 5), (some (11, true)), [5, 11]⟩,
       ⟨(some 13), .bin (.str .eql) (.t 12) (.c (.str [95])), (some (11, true)), [12, 11]⟩,
       ⟨(some 14), .pick (.t 11) (.t 13) (.c (.bool false)), none, [11, 13]⟩,
       ⟨(some 8), .mv (.t 14), none, [14]⟩])
    (RC.cond (.t 8)
     (RC.seq (RC.reg [⟨(some 15), .mv (.t 5), none, [5]⟩,
         ⟨(some 16), .build [(.int .i64 0), (.int .i64 0), (.int .i64 0), (.str [])] [(0, 1, (.c (.int .i64 7))), (3, 1, (.t 15))], none, [15]⟩,
         ⟨none, .st 4 (.t 4) (.t 16), none, [4, 16]⟩])
      (RC.ret))
     (RC.seq (RC.reg [⟨(some 18), .mv (.t 1), none, [1]⟩,
         ⟨(some 19), .bin (.int .eql) (.t 18) (.c (.int .i64 3)), none, [18]⟩,
         ⟨(some 20), .mv (.t 19), none, [19]⟩,
         ⟨(some 21), .mv (.t 5), (some (20, true)), [5, 20]⟩,
         ⟨(some 22), .bin (.str .add) (.c (.str [32])) (.t 21), (some (20, true)), [21, 20]⟩,
         ⟨(some 23), .bin (.str .add) (.t 22) (.c (.str [32])), (some (20, true)), [22, 20]⟩,
         ⟨(some 24), .call 63 [(.c (.str [32, 97, 110, 100, 32, 98, 101, 103, 105, 110, 32, 101, 108, 115, 101, 32, 101, 110, 100, 32, 101, 120, 99, 101, 112, 116, 105, 111, 110, 32, 102, 97, 108, 115, 101, 32, 102, 117, 110, 32, 105, 102, 32, 105, 110, 32, 108, 101, 116, 32, 109, 97, 116, 99, 104, 32, 109, 111, 100, 32, 111, 102, 32, 114, 97, 105, 115, 101, 32, 114, 101, 99, 32, 116, 104, 101, 110, 32, 116, 114, 117, 101, 32, 116, 114, 121, 32, 116, 121, 112, 101, 32, 119, 105, 116, 104, 32])), (.t 23)], (some (20, true)), [23, 20]⟩,
         ⟨(some 25), .pick (.t 20) (.t 24) (.c (.bool false)), none, [20, 24]⟩,
         ⟨(some 17), .mv (.t 25), none, [25]⟩])
      (RC.cond (.t 17)
       (RC.seq (RC.reg [⟨(some 26), .mv (.t 5), none, [5]⟩,
           ⟨(some 27), .build [(.int .i64 0), (.int .i64 0), (.int .i64 0), (.str [])] [(0, 1, (.c (.int .i64 6))), (3, 1, (.t 26))], none, [26]⟩,
           ⟨none, .st 4 (.t 4) (.t 27), none, [4, 27]⟩])
        (RC.ret))
       (RC.seq (RC.reg [⟨(some 29), .mv (.t 5), none, [5]⟩,
           ⟨(some 30), .len .str (.t 29), none, [29]⟩,
           ⟨(some 31), .bin (.int .gtr) (.t 30) (.c (.int .i64 64)), none, [30]⟩,
           ⟨(some 28), .mv (.t 31), none, [31]⟩])
        (RC.cond (.t 28)
         (RC.reg [⟨(some 32), .mv (.t 0), none, [0]⟩,
            ⟨(some 33), .nilck (.t 32), none, [32]⟩,
            ⟨(some 34), .fa 2 (.t 33), none, [33]⟩,
            ⟨none, .st 1 (.t 34) (.c (.int .i64 255)), none, [34]⟩])
         (RC.skip))))))))
  (RC.seq (RC.reg [⟨(some 35), .mv (.t 1), none, [1]⟩,
     ⟨(some 36), .mv (.t 5), none, [5]⟩,
     ⟨(some 37), .build [(.int .i64 0), (.int .i64 0), (.int .i64 0), (.str [])] [(0, 1, (.t 35)), (3, 1, (.t 36))], none, [35, 36]⟩,
     ⟨none, .st 4 (.t 4) (.t 37), none, [4, 37]⟩])
  (RC.ret))))
theorem c48_ok : resK Tryd.prog Tryd.f48.ntmps (Tryd.f48.body.getD .skip) = c48 := by kernel_rfl
theorem c48_res : resR Tryd.prog Tryd.f48.ntmps Tryd.f48.results.toList = [.cn 4 4] := by kernel_rfl
theorem c48_ctr {args : List V} {h : Heap} {K : V → Heap → Prop} (hl : Nat.ble args.length 38 = true) (H : wpC Tryd.prog c48 (RF.ofL args) h fun e r h' => e.ends ∧ ∃ vs, evR r h' [.cn 4 4] = some vs ∧ K (oneOf vs) h') : Ctr Tryd.prog 48 args h K :=
  ctr_of_wp follows namesOk Tryd.func48 (c := Tryd.f48.body.getD .skip) (by kernel_rfl) (by kernel_rfl) hl c48_ok c48_res H

/-- gimlet/lex.great -/
def c49 : RC :=
  RC.seq (RC.reg [⟨(some 2), .mv (.c (.bool false)), none, []⟩])
  (RC.seq (RC.reg [⟨(some 3), .mv (.t 0), none, [0]⟩,
     ⟨(some 4), .bin (.int .geq) (.t 3) (.c (.int .u8 65)), none, [3]⟩,
     ⟨(some 5), .mv (.t 4), none, [4]⟩,
     ⟨(some 6), .mv (.t 0), (some (5, true)), [0, 5]⟩,
     ⟨(some 7), .bin (.int .leq) (.t 6) (.c (.int .u8 90)), (some (5, true)), [6, 5]⟩,
     ⟨(some 8), .pick (.t 5) (.t 7) (.c (.bool false)), none, [5, 7]⟩,
     ⟨(some 2), .mv (.t 8), none, [8]⟩])
  (RC.ret))
theorem c49_ok : resK Tryd.prog Tryd.f49.ntmps (Tryd.f49.body.getD .skip) = c49 := by kernel_rfl
theorem c49_res : resR Tryd.prog Tryd.f49.ntmps Tryd.f49.results.toList = [.t 2] := by kernel_rfl
theorem c49_ctr {args : List V} {h : Heap} {K : V → Heap → Prop} (hl : Nat.ble args.length 9 = true) (H : wpC Tryd.prog c49 (RF.ofL args) h fun e r h' => e.ends ∧ ∃ vs, evR r h' [.t 2] = some vs ∧ K (oneOf vs) h') : Ctr Tryd.prog 49 args h K :=
  ctr_of_wp follows namesOk Tryd.func49 (c := Tryd.f49.body.getD .skip) (by kernel_rfl) (by kernel_rfl) hl c49_ok c49_res H

/-- gimlet/lex.signs -/
def c50 : RC :=
  RC.seq (RC.reg [⟨(some 0), .mv (.c .nilslice), none, []⟩])
  (RC.seq (RC.reg [⟨(some 1), .bsl 17 1 [(.str [])] [(0, 1, (.c (.str [59, 59]))), (1, 1, (.c (.str [58, 61]))), (2, 1, (.c (.str [45, 62]))), (3, 1, (.c (.str [60, 61]))), (4, 1, (.c (.str [59]))), (5, 1, (.c (.str [40]))), (6, 1, (.c (.str [41]))), (7, 1, (.c (.str [44]))), (8, 1, (.c (.str [61]))), (9, 1, (.c (.str [60]))), (10, 1, (.c (.str [43]))), (11, 1, (.c (.str [45]))), (12, 1, (.c (.str [42]))), (13, 1, (.c (.str [47]))), (14, 1, (.c (.str [124]))), (15, 1, (.c (.str [33]))), (16, 1, (.c (.str [95])))], none, []⟩,
     ⟨(some 0), .mv (.t 1), none, [1]⟩])
  (RC.ret))
theorem c50_ok : resK Tryd.prog Tryd.f50.ntmps (Tryd.f50.body.getD .skip) = c50 := by kernel_rfl
theorem c50_res : resR Tryd.prog Tryd.f50.ntmps Tryd.f50.results.toList = [.t 0] := by kernel_rfl
theorem c50_ctr {args : List V} {h : Heap} {K : V → Heap → Prop} (hl : Nat.ble args.length 2 = true) (H : wpC Tryd.prog c50 (RF.ofL args) h fun e r h' => e.ends ∧ ∃ vs, evR r h' [.t 0] = some vs ∧ K (oneOf vs) h') : Ctr Tryd.prog 50 args h K :=
  ctr_of_wp follows namesOk Tryd.func50 (c := Tryd.f50.body.getD .skip) (by kernel_rfl) (by kernel_rfl) hl c50_ok c50_res H

/-- gimlet/lex.named -/
def c62 : RC :=
  RC.seq (RC.reg [⟨(some 4), .mv (.c (.bool false)), none, []⟩])
  (RC.seq (RC.seq (RC.reg [⟨(some 5), .mv (.t 1), none, [1]⟩,
      ⟨(some 6), .bin (.str .eql) (.t 5) (.c (.str [])), none, [5]⟩,
      ⟨(some 7), .mv (.t 6), none, [6]⟩,
      ⟨(some 8), .mv (.t 1), (some (7, false)), [1, 7]⟩,
      ⟨(some 9), .len .str (.t 8), (some (7, false)), [8, 7]⟩,
      ⟨(some 10), .bin (.int .gtr) (.t 9) (.c (.int .i64 64)), (some (7, false)), [9, 7]⟩,
      ⟨(some 11), .pick (.t 7) (.c (.bool true)) (.t 10), none, [7, 10]⟩,
      ⟨(some 12), .mv (.t 11), none, [11]⟩,
      ⟨(some 13), .mv (.t 1), (some (12, false)), [1, 12]⟩,
      ⟨(some 14), .cv .bytes (.t 13), (some (12, false)), [13, 12]⟩,
      ⟨(some 15), .call 78 [(.t 14), (.c (.func 79 []))], (some (12, false)), [14, 12]⟩,
      ⟨(some 16), .pick (.t 12) (.c (.bool true)) (.t 15), none, [12, 15]⟩])
   (RC.cond (.t 16)
    (RC.seq (RC.reg [⟨(some 4), .mv (.c (.bool false)), none, []⟩])
     (RC.ret))
    (RC.skip)))
  (RC.seq (RC.seq (RC.reg [⟨(some 17), .mv (.t 0), none, [0]⟩])
   (RC.block 0 (RC.seq (RC.reg [⟨(some 19), .bin (.int .eql) (.t 17) (.c (.int .i64 3)), none, [17]⟩,
       ⟨(some 18), .mv (.t 19), none, [19]⟩])
    (RC.cond (.t 18)
     (RC.seq (RC.reg [⟨(some 20), .mv (.t 1), none, [1]⟩,
         ⟨(some 21), .ixs (.t 20) (.c (.int .i64 0)), none, [20]⟩,
         ⟨(some 22), .call 47 [(.t 21)], none, [21]⟩,
         ⟨(some 23), .mv (.t 22), none, [22]⟩,
         ⟨(some 24), .mv (.t 1), (some (23, false)), [1, 23]⟩,
         ⟨(some 25), .ixs (.t 24) (.c (.int .i64 0)), (some (23, false)), [24, 23]⟩,
         ⟨(some 26), .bin (.int .eql) (.t 25) (.c (.int .u8 95)), (some (23, false)), [25, 23]⟩,
         ⟨(some 27), .pick (.t 23) (.c (.bool true)) (.t 26), none, [23, 26]⟩,
         ⟨(some 28), .mv (.t 27), none, [27]⟩,
         ⟨(some 29), .mv (.t 1), (some (28, true)), [1, 28]⟩,
         ⟨(some 30), .bin (.str .neq) (.t 29) (.c (.str [95])), (some (28, true)), [29, 28]⟩,
         ⟨(some 31), .pick (.t 28) (.t 30) (.c (.bool false)), none, [28, 30]⟩,
         ⟨(some 32), .mv (.t 31), none, [31]⟩,
         ⟨(some 33), .mv (.t 1), (some (32, true)), [1, 32]⟩,
         ⟨(some 34), .bin (.str .add) (.c (.str [32])) (.t 33), (some (32, true)), [33, 32]⟩,
         ⟨(some 35), .bin (.str .add) (.t 34) (.c (.str [32])), (some (32, true)), [34, 32]⟩,
         ⟨(some 36), .call 63 [(.c (.str [32, 97, 110, 100, 32, 98, 101, 103, 105, 110, 32, 101, 108, 115, 101, 32, 101, 110, 100, 32, 101, 120, 99, 101, 112, 116, 105, 111, 110, 32, 102, 97, 108, 115, 101, 32, 102, 117, 110, 32, 105, 102, 32, 105, 110, 32, 108, 101, 116, 32, 109, 97, 116, 99, 104, 32, 109, 111, 100, 32, 111, 102, 32, 114, 97, 105, 115, 101, 32, 114, 101, 99, 32, 116, 104, 101, 110, 32, 116, 114, 117, 101, 32, 116, 114, 121, 32, 116, 121, 112, 101, 32, 119, 105, 116, 104, 32])), (.t 35)], (some (32, true)), [35, 32]⟩,
         ⟨(some 37), .un .not (.t 36), (some (32, true)), [36, 32]⟩,
         ⟨(some 38), .pick (.t 32) (.t 37) (.c (.bool false)), none, [32, 37]⟩,
         ⟨(some 4), .mv (.t 38), none, [38]⟩])
      (RC.ret))
     (RC.seq (RC.reg [⟨(some 40), .bin (.int .eql) (.t 17) (.c (.int .i64 4)), none, [17]⟩,
         ⟨(some 39), .mv (.t 40), none, [40]⟩])
      (RC.cond (.t 39)
       (RC.seq (RC.reg [⟨(some 41), .mv (.t 1), none, [1]⟩,
           ⟨(some 42), .ixs (.t 41) (.c (.int .i64 0)), none, [41]⟩,
           ⟨(some 43), .call 49 [(.t 42)], none, [42]⟩,
           ⟨(some 4), .mv (.t 43), none, [43]⟩])
        (RC.ret))
       (RC.skip)))))))
  (RC.seq (RC.reg [⟨(some 44), .mv (.t 1), none, [1]⟩,
     ⟨(some 45), .ixs (.t 44) (.c (.int .i64 0)), none, [44]⟩,
     ⟨(some 46), .call 47 [(.t 45)], none, [45]⟩,
     ⟨(some 4), .mv (.t 46), none, [46]⟩])
  (RC.ret))))
theorem c62_ok : resK Tryd.prog Tryd.f62.ntmps (Tryd.f62.body.getD .skip) = c62 := by kernel_rfl
theorem c62_res : resR Tryd.prog Tryd.f62.ntmps Tryd.f62.results.toList = [.t 4] := by kernel_rfl
theorem c62_ctr {args : List V} {h : Heap} {K : V → Heap → Prop} (hl : Nat.ble args.length 47 = true) (H : wpC Tryd.prog c62 (RF.ofL args) h fun e r h' => e.ends ∧ ∃ vs, evR r h' [.t 4] = some vs ∧ K (oneOf vs) h') : Ctr Tryd.prog 62 args h K :=
  ctr_of_wp follows namesOk Tryd.func62 (c := Tryd.f62.body.getD .skip) (by kernel_rfl) (by kernel_rfl) hl c62_ok c62_res H

/-- slices.Contains[[]string,string] -/
def c64 : RC :=
  RC.seq (RC.reg [⟨(some 4), .mv (.c (.bool false)), none, []⟩])
  (RC.seq (RC.reg [⟨(some 5), .mv (.t 0), none, [0]⟩,
     ⟨(some 6), .mv (.t 1), none, [1]⟩,
     ⟨(some 7), .call 81 [(.t 5), (.t 6)], none, [5, 6]⟩,
     ⟨(some 8), .bin (.int .geq) (.t 7) (.c (.int .i64 0)), none, [7]⟩,
     ⟨(some 4), .mv (.t 8), none, [8]⟩])
  (RC.ret))
theorem c64_ok : resK Tryd.prog Tryd.f64.ntmps (Tryd.f64.body.getD .skip) = c64 := by kernel_rfl
theorem c64_res : resR Tryd.prog Tryd.f64.ntmps Tryd.f64.results.toList = [.t 4] := by kernel_rfl
theorem c64_ctr {args : List V} {h : Heap} {K : V → Heap → Prop} (hl : Nat.ble args.length 9 = true) (H : wpC Tryd.prog c64 (RF.ofL args) h fun e r h' => e.ends ∧ ∃ vs, evR r h' [.t 4] = some vs ∧ K (oneOf vs) h') : Ctr Tryd.prog 64 args h K :=
  ctr_of_wp follows namesOk Tryd.func64 (c := Tryd.f64.body.getD .skip) (by kernel_rfl) (by kernel_rfl) hl c64_ok c64_res H

/-- internal/stringslite.HasPrefix -/
def c73 : RC :=
  RC.seq (RC.reg [⟨(some 4), .mv (.c (.bool false)), none, []⟩])
  (RC.seq (RC.reg [⟨(some 5), .mv (.t 0), none, [0]⟩,
     ⟨(some 6), .len .str (.t 5), none, [5]⟩,
     ⟨(some 7), .mv (.t 1), none, [1]⟩,
     ⟨(some 8), .len .str (.t 7), none, [7]⟩,
     ⟨(some 9), .bin (.int .geq) (.t 6) (.t 8), none, [6, 8]⟩,
     ⟨(some 10), .mv (.t 9), none, [9]⟩,
     ⟨(some 11), .mv (.t 0), (some (10, true)), [0, 10]⟩,
     ⟨(some 12), .mv (.t 1), (some (10, true)), [1, 10]⟩,
     ⟨(some 13), .len .str (.t 12), (some (10, true)), [12, 10]⟩,
     ⟨(some 14), .slstr (.t 11) none (some (.t 13)) none, (some (10, true)), [11, 13, 10]⟩,
     ⟨(some 15), .mv (.t 1), (some (10, true)), [1, 10]⟩,
     ⟨(some 16), .bin (.str .eql) (.t 14) (.t 15), (some (10, true)), [14, 15, 10]⟩,
     ⟨(some 17), .pick (.t 10) (.t 16) (.c (.bool false)), none, [10, 16]⟩,
     ⟨(some 4), .mv (.t 17), none, [17]⟩])
  (RC.ret))
theorem c73_ok : resK Tryd.prog Tryd.f73.ntmps (Tryd.f73.body.getD .skip) = c73 := by kernel_rfl
theorem c73_res : resR Tryd.prog Tryd.f73.ntmps Tryd.f73.results.toList = [.t 4] := by kernel_rfl
theorem c73_ctr {args : List V} {h : Heap} {K : V → Heap → Prop} (hl : Nat.ble args.length 18 = true) (H : wpC Tryd.prog c73 (RF.ofL args) h fun e r h' => e.ends ∧ ∃ vs, evR r h' [.t 4] = some vs ∧ K (oneOf vs) h') : Ctr Tryd.prog 73 args h K :=
  ctr_of_wp follows namesOk Tryd.func73 (c := Tryd.f73.body.getD .skip) (by kernel_rfl) (by kernel_rfl) hl c73_ok c73_res H

/-- (*gimlet/lex.scanner).run -/
def c75l1 : RC :=
  RC.seq (RC.seq (RC.draw [⟨(some 10), .mv (.t 0), none, [0]⟩,
      ⟨(some 11), .nilck (.t 10), none, [10]⟩,
      ⟨(some 12), .fa 1 (.t 11), none, [11]⟩,
      ⟨(some 13), .ld1 (.t 12), none, [12]⟩,
      ⟨(some 14), .mv (.t 0), none, [0]⟩,
      ⟨(some 15), .nilck (.t 14), none, [14]⟩,
      ⟨(some 16), .fa 0 (.t 15), none, [15]⟩,
      ⟨(some 17), .ld1 (.t 16), none, [16]⟩,
      ⟨(some 18), .len .str (.t 17), none, [17]⟩,
      ⟨(some 19), .bin (.int .lss) (.t 13) (.t 18), none, [13, 18]⟩,
      ⟨(some 20), .mv (.t 19), none, [19]⟩,
      ⟨(some 21), .mv (.t 1), (some (20, true)), [1, 20]⟩,
      ⟨(some 22), .mv (.t 0), (some (20, true)), [0, 20]⟩,
      ⟨(some 23), .nilck (.t 22), (some (20, true)), [22, 20]⟩,
      ⟨(some 24), .fa 0 (.t 23), (some (20, true)), [23, 20]⟩,
      ⟨(some 25), .ld1 (.t 24), (some (20, true)), [24, 20]⟩,
      ⟨(some 26), .mv (.t 0), (some (20, true)), [0, 20]⟩,
      ⟨(some 27), .nilck (.t 26), (some (20, true)), [26, 20]⟩,
      ⟨(some 28), .fa 1 (.t 27), (some (20, true)), [27, 20]⟩,
      ⟨(some 29), .ld1 (.t 28), (some (20, true)), [28, 20]⟩,
      ⟨(some 30), .ixs (.t 25) (.t 29), (some (20, true)), [25, 29, 20]⟩,
      ⟨(some 31), .callv (.t 21) [(.t 30)], (some (20, true)), [21, 30, 20]⟩,
      ⟨(some 32), .pick (.t 20) (.t 31) (.c (.bool false)), none, [20, 31]⟩] [(3, [21]), (7, [21]), (15, [21]), (19, [21])])
   (RC.cond (.t 32)
    (RC.skip)
    (RC.exit 0)))
  (RC.block 1 (RC.reg [⟨(some 33), .mv (.t 0), none, [0]⟩,
     ⟨(some 34), .nilck (.t 33), none, [33]⟩,
     ⟨(some 35), .fa 1 (.t 34), none, [34]⟩,
     ⟨(some 36), .ld1 (.t 35), none, [35]⟩,
     ⟨(some 37), .bin (.int .add) (.t 36) (.c (.int .i64 1)), none, [36]⟩,
     ⟨(some 38), .nilck (.t 33), none, [33]⟩,
     ⟨(some 39), .fa 1 (.t 38), none, [38]⟩,
     ⟨none, .st 1 (.t 39) (.t 37), none, [39, 37]⟩]))
def c75 : RC :=
  RC.seq (RC.reg [⟨(some 4), .mv (.c (.str [])), none, []⟩])
  (RC.seq (RC.reg [⟨(some 6), .mv (.t 0), none, [0]⟩,
     ⟨(some 7), .nilck (.t 6), none, [6]⟩,
     ⟨(some 8), .fa 1 (.t 7), none, [7]⟩,
     ⟨(some 9), .ld1 (.t 8), none, [8]⟩,
     ⟨(some 5), .mv (.t 9), none, [9]⟩])
  (RC.seq (RC.block 0 (RC.loop c75l1))
  (RC.seq (RC.draw [⟨(some 40), .mv (.t 0), none, [0]⟩,
     ⟨(some 41), .nilck (.t 40), none, [40]⟩,
     ⟨(some 42), .fa 0 (.t 41), none, [41]⟩,
     ⟨(some 43), .ld1 (.t 42), none, [42]⟩,
     ⟨(some 44), .mv (.t 5), none, [5]⟩,
     ⟨(some 45), .mv (.t 0), none, [0]⟩,
     ⟨(some 46), .nilck (.t 45), none, [45]⟩,
     ⟨(some 47), .fa 1 (.t 46), none, [46]⟩,
     ⟨(some 48), .ld1 (.t 47), none, [47]⟩,
     ⟨(some 49), .slstr (.t 43) (some (.t 44)) (some (.t 48)) none, none, [43, 44, 48]⟩,
     ⟨(some 4), .mv (.t 49), none, [49]⟩] [])
  (RC.ret))))
theorem c75_ok : resK Tryd.prog Tryd.f75.ntmps (Tryd.f75.body.getD .skip) = c75 := by kernel_rfl
theorem c75_res : resR Tryd.prog Tryd.f75.ntmps Tryd.f75.results.toList = [.t 4] := by kernel_rfl
theorem c75_ctr {args : List V} {h : Heap} {K : V → Heap → Prop} (hl : Nat.ble args.length 50 = true) (H : wpC Tryd.prog c75 (RF.ofL args) h fun e r h' => e.ends ∧ ∃ vs, evR r h' [.t 4] = some vs ∧ K (oneOf vs) h') : Ctr Tryd.prog 75 args h K :=
  ctr_of_wp follows namesOk Tryd.func75 (c := Tryd.f75.body.getD .skip) (by kernel_rfl) (by kernel_rfl) hl c75_ok c75_res H

/-- (*gimlet/lex.scanner).escape -/
def c76 : RC :=
  RC.seq (RC.reg [⟨(some 2), .mv (.c (.int .u8 0)), none, []⟩])
  (RC.seq (RC.reg [⟨(some 7), .mv (.t 0), none, [0]⟩,
     ⟨(some 8), .nilck (.t 7), none, [7]⟩,
     ⟨(some 9), .fa 1 (.t 8), none, [8]⟩,
     ⟨(some 10), .ld1 (.t 9), none, [9]⟩,
     ⟨(some 11), .bin (.int .add) (.t 10) (.c (.int .i64 1)), none, [10]⟩,
     ⟨(some 12), .nilck (.t 7), none, [7]⟩,
     ⟨(some 13), .fa 1 (.t 12), none, [12]⟩,
     ⟨none, .st 1 (.t 13) (.t 11), none, [13, 11]⟩])
  (RC.seq (RC.draw [⟨(some 14), .mv (.t 0), none, [0]⟩,
     ⟨(some 15), .nilck (.t 14), none, [14]⟩,
     ⟨(some 16), .fa 0 (.t 15), none, [15]⟩,
     ⟨(some 17), .ld1 (.t 16), none, [16]⟩,
     ⟨(some 18), .mv (.t 0), none, [0]⟩,
     ⟨(some 19), .nilck (.t 18), none, [18]⟩,
     ⟨(some 20), .fa 1 (.t 19), none, [19]⟩,
     ⟨(some 21), .ld1 (.t 20), none, [20]⟩,
     ⟨(some 22), .slstr (.t 17) (some (.t 21)) none none, none, [17, 21]⟩,
     ⟨(some 3), .mv (.t 22), none, [22]⟩] [])
  (RC.seq (RC.seq (RC.reg [⟨(some 23), .mv (.t 3), none, [3]⟩,
      ⟨(some 24), .bin (.str .neq) (.t 23) (.c (.str [])), none, [23]⟩])
   (RC.cond (.t 24)
    (RC.seq (RC.reg [⟨(some 25), .mv (.t 3), none, [3]⟩,
        ⟨(some 26), .ixs (.t 25) (.c (.int .i64 0)), none, [25]⟩,
        ⟨(some 27), .call 23 [(.c (.str [110, 116, 34, 92])), (.t 26)], none, [26]⟩,
        ⟨(some 4), .mv (.t 27), none, [27]⟩])
     (RC.seq (RC.reg [⟨(some 28), .mv (.t 4), none, [4]⟩,
        ⟨(some 29), .bin (.int .geq) (.t 28) (.c (.int .i64 0)), none, [28]⟩])
     (RC.cond (.t 29)
      (RC.seq (RC.reg [⟨(some 30), .mv (.t 0), none, [0]⟩,
          ⟨(some 31), .nilck (.t 30), none, [30]⟩,
          ⟨(some 32), .fa 1 (.t 31), none, [31]⟩,
          ⟨(some 33), .ld1 (.t 32), none, [32]⟩,
          ⟨(some 34), .bin (.int .add) (.t 33) (.c (.int .i64 1)), none, [33]⟩,
          ⟨(some 35), .nilck (.t 30), none, [30]⟩,
          ⟨(some 36), .fa 1 (.t 35), none, [35]⟩,
          ⟨none, .st 1 (.t 36) (.t 34), none, [36, 34]⟩])
       (RC.seq (RC.reg [⟨(some 37), .mv (.t 4), none, [4]⟩,
          ⟨(some 38), .ixs (.c (.str [10, 9, 34, 92])) (.t 37), none, [37]⟩,
          ⟨(some 2), .mv (.t 38), none, [38]⟩])
       (RC.ret)))
      (RC.skip))))
    (RC.skip)))
  (RC.seq (RC.seq (RC.reg [⟨(some 39), .mv (.t 3), none, [3]⟩,
      ⟨(some 40), .len .str (.t 39), none, [39]⟩,
      ⟨(some 41), .bin (.int .geq) (.t 40) (.c (.int .i64 3)), none, [40]⟩,
      ⟨(some 42), .mv (.t 41), none, [41]⟩,
      ⟨(some 43), .mv (.t 3), (some (42, true)), [3, 42]⟩,
      ⟨(some 44), .ixs (.t 43) (.c (.int .i64 0)), (some (42, true)), [43, 42]⟩,
      ⟨(some 45), .call 44 [(.t 44)], (some (42, true)), [44, 42]⟩,
      ⟨(some 46), .pick (.t 42) (.t 45) (.c (.bool false)), none, [42, 45]⟩,
      ⟨(some 47), .mv (.t 46), none, [46]⟩,
      ⟨(some 48), .mv (.t 3), (some (47, true)), [3, 47]⟩,
      ⟨(some 49), .ixs (.t 48) (.c (.int .i64 1)), (some (47, true)), [48, 47]⟩,
      ⟨(some 50), .call 44 [(.t 49)], (some (47, true)), [49, 47]⟩,
      ⟨(some 51), .pick (.t 47) (.t 50) (.c (.bool false)), none, [47, 50]⟩,
      ⟨(some 52), .mv (.t 51), none, [51]⟩,
      ⟨(some 53), .mv (.t 3), (some (52, true)), [3, 52]⟩,
      ⟨(some 54), .ixs (.t 53) (.c (.int .i64 2)), (some (52, true)), [53, 52]⟩,
      ⟨(some 55), .call 44 [(.t 54)], (some (52, true)), [54, 52]⟩,
      ⟨(some 56), .pick (.t 52) (.t 55) (.c (.bool false)), none, [52, 55]⟩])
   (RC.cond (.t 56)
    (RC.seq (RC.reg [⟨(some 58), .mv (.t 3), none, [3]⟩,
        ⟨(some 59), .slstr (.t 58) none (some (.c (.int .i64 3))) none, none, [58]⟩,
        ⟨(some 60), .call 87 [(.t 59)], none, [59]⟩,
        ⟨(some 57), .mv (.t 60), none, [60]⟩,
        ⟨(some 61), .ext (.t 57) 0, none, [57]⟩,
        ⟨(some 62), .ext (.t 57) 1, none, [57]⟩,
        ⟨(some 5), .mv (.t 61), none, [61]⟩,
        ⟨(some 6), .mv (.t 62), none, [62]⟩])
     (RC.seq (RC.reg [⟨(some 63), .mv (.t 5), none, [5]⟩,
        ⟨(some 64), .bin (.int .lss) (.t 63) (.c (.int .i64 256)), none, [63]⟩])
     (RC.cond (.t 64)
      (RC.seq (RC.reg [⟨(some 65), .mv (.t 0), none, [0]⟩,
          ⟨(some 66), .nilck (.t 65), none, [65]⟩,
          ⟨(some 67), .fa 1 (.t 66), none, [66]⟩,
          ⟨(some 68), .ld1 (.t 67), none, [67]⟩,
          ⟨(some 69), .bin (.int .add) (.t 68) (.c (.int .i64 3)), none, [68]⟩,
          ⟨(some 70), .nilck (.t 65), none, [65]⟩,
          ⟨(some 71), .fa 1 (.t 70), none, [70]⟩,
          ⟨none, .st 1 (.t 71) (.t 69), none, [71, 69]⟩])
       (RC.seq (RC.reg [⟨(some 72), .mv (.t 5), none, [5]⟩,
          ⟨(some 73), .cv (.int .u8) (.t 72), none, [72]⟩,
          ⟨(some 2), .mv (.t 73), none, [73]⟩])
       (RC.ret)))
      (RC.skip))))
    (RC.skip)))
  (RC.seq (RC.reg [⟨(some 74), .mv (.t 0), none, [0]⟩,
     ⟨(some 75), .nilck (.t 74), none, [74]⟩,
     ⟨(some 76), .fa 2 (.t 75), none, [75]⟩,
     ⟨none, .st 1 (.t 76) (.c (.int .i64 252)), none, [76]⟩])
  (RC.seq (RC.reg [⟨(some 2), .mv (.c (.int .u8 0)), none, []⟩])
  (RC.ret)))))))
theorem c76_ok : resK Tryd.prog Tryd.f76.ntmps (Tryd.f76.body.getD .skip) = c76 := by kernel_rfl
theorem c76_res : resR Tryd.prog Tryd.f76.ntmps Tryd.f76.results.toList = [.t 2] := by kernel_rfl
theorem c76_ctr {args : List V} {h : Heap} {K : V → Heap → Prop} (hl : Nat.ble args.length 77 = true) (H : wpC Tryd.prog c76 (RF.ofL args) h fun e r h' => e.ends ∧ ∃ vs, evR r h' [.t 2] = some vs ∧ K (oneOf vs) h') : Ctr Tryd.prog 76 args h K :=
  ctr_of_wp follows namesOk Tryd.func76 (c := Tryd.f76.body.getD .skip) (by kernel_rfl) (by kernel_rfl) hl c76_ok c76_res H

/-- gimlet/lex.letter -/
def c77 : RC :=
  RC.seq (RC.reg [⟨(some 2), .mv (.c (.bool false)), none, []⟩])
  (RC.seq (RC.reg [⟨(some 3), .mv (.t 0), none, [0]⟩,
     ⟨(some 4), .call 44 [(.t 3)], none, [3]⟩,
     ⟨(some 5), .mv (.t 4), none, [4]⟩,
     ⟨(some 6), .mv (.t 0), (some (5, false)), [0, 5]⟩,
     ⟨(some 7), .call 47 [(.t 6)], (some (5, false)), [6, 5]⟩,
     ⟨(some 8), .pick (.t 5) (.c (.bool true)) (.t 7), none, [5, 7]⟩,
     ⟨(some 9), .mv (.t 8), none, [8]⟩,
     ⟨(some 10), .mv (.t 0), (some (9, false)), [0, 9]⟩,
     ⟨(some 11), .call 49 [(.t 10)], (some (9, false)), [10, 9]⟩,
     ⟨(some 12), .pick (.t 9) (.c (.bool true)) (.t 11), none, [9, 11]⟩,
     ⟨(some 13), .mv (.t 12), none, [12]⟩,
     ⟨(some 14), .mv (.t 0), (some (13, false)), [0, 13]⟩,
     ⟨(some 15), .bin (.int .eql) (.t 14) (.c (.int .u8 95)), (some (13, false)), [14, 13]⟩,
     ⟨(some 16), .pick (.t 13) (.c (.bool true)) (.t 15), none, [13, 15]⟩,
     ⟨(some 17), .mv (.t 16), none, [16]⟩,
     ⟨(some 18), .mv (.t 0), (some (17, false)), [0, 17]⟩,
     ⟨(some 19), .bin (.int .eql) (.t 18) (.c (.int .u8 39)), (some (17, false)), [18, 17]⟩,
     ⟨(some 20), .pick (.t 17) (.c (.bool true)) (.t 19), none, [17, 19]⟩,
     ⟨(some 2), .mv (.t 20), none, [20]⟩])
  (RC.ret))
theorem c77_ok : resK Tryd.prog Tryd.f77.ntmps (Tryd.f77.body.getD .skip) = c77 := by kernel_rfl
theorem c77_res : resR Tryd.prog Tryd.f77.ntmps Tryd.f77.results.toList = [.t 2] := by kernel_rfl
theorem c77_ctr {args : List V} {h : Heap} {K : V → Heap → Prop} (hl : Nat.ble args.length 21 = true) (H : wpC Tryd.prog c77 (RF.ofL args) h fun e r h' => e.ends ∧ ∃ vs, evR r h' [.t 2] = some vs ∧ K (oneOf vs) h') : Ctr Tryd.prog 77 args h K :=
  ctr_of_wp follows namesOk Tryd.func77 (c := Tryd.f77.body.getD .skip) (by kernel_rfl) (by kernel_rfl) hl c77_ok c77_res H

/-- slices.ContainsFunc[[]byte,byte] -/
def c78 : RC :=
  RC.seq (RC.reg [⟨(some 4), .mv (.c (.bool false)), none, []⟩])
  (RC.seq (RC.reg [⟨(some 5), .mv (.t 0), none, [0]⟩,
     ⟨(some 6), .mv (.t 1), none, [1]⟩,
     ⟨(some 7), .call 88 [(.t 5), (.t 6)], none, [5, 6]⟩,
     ⟨(some 8), .bin (.int .geq) (.t 7) (.c (.int .i64 0)), none, [7]⟩,
     ⟨(some 4), .mv (.t 8), none, [8]⟩])
  (RC.ret))
theorem c78_ok : resK Tryd.prog Tryd.f78.ntmps (Tryd.f78.body.getD .skip) = c78 := by kernel_rfl
theorem c78_res : resR Tryd.prog Tryd.f78.ntmps Tryd.f78.results.toList = [.t 4] := by kernel_rfl
theorem c78_ctr {args : List V} {h : Heap} {K : V → Heap → Prop} (hl : Nat.ble args.length 9 = true) (H : wpC Tryd.prog c78 (RF.ofL args) h fun e r h' => e.ends ∧ ∃ vs, evR r h' [.t 4] = some vs ∧ K (oneOf vs) h') : Ctr Tryd.prog 78 args h K :=
  ctr_of_wp follows namesOk Tryd.func78 (c := Tryd.f78.body.getD .skip) (by kernel_rfl) (by kernel_rfl) hl c78_ok c78_res H

/-- gimlet/lex.named$1 -/
def c79 : RC :=
  RC.seq (RC.reg [⟨(some 2), .mv (.c (.bool false)), none, []⟩])
  (RC.seq (RC.reg [⟨(some 3), .mv (.t 0), none, [0]⟩,
     ⟨(some 4), .call 77 [(.t 3)], none, [3]⟩,
     ⟨(some 5), .un .not (.t 4), none, [4]⟩,
     ⟨(some 2), .mv (.t 5), none, [5]⟩])
  (RC.ret))
theorem c79_ok : resK Tryd.prog Tryd.f79.ntmps (Tryd.f79.body.getD .skip) = c79 := by kernel_rfl
theorem c79_res : resR Tryd.prog Tryd.f79.ntmps Tryd.f79.results.toList = [.t 2] := by kernel_rfl
theorem c79_ctr {args : List V} {h : Heap} {K : V → Heap → Prop} (hl : Nat.ble args.length 6 = true) (H : wpC Tryd.prog c79 (RF.ofL args) h fun e r h' => e.ends ∧ ∃ vs, evR r h' [.t 2] = some vs ∧ K (oneOf vs) h') : Ctr Tryd.prog 79 args h K :=
  ctr_of_wp follows namesOk Tryd.func79 (c := Tryd.f79.body.getD .skip) (by kernel_rfl) (by kernel_rfl) hl c79_ok c79_res H

/-- slices.Index[[]string,string] -/
def c81l1 : RC :=
  RC.seq (RC.reg [⟨(some 9), .bin (.int .lss) (.t 8) (.t 7), none, [8, 7]⟩])
  (RC.seq (RC.cond (.t 9)
    (RC.skip)
    (RC.exit 0))
  (RC.seq (RC.block 1 (RC.seq (RC.reg [⟨(some 10), .mv (.t 8), none, [8]⟩,
       ⟨(some 5), .mv (.t 10), none, [10]⟩])
    (RC.seq (RC.reg [⟨(some 11), .mv (.t 1), none, [1]⟩,
       ⟨(some 12), .mv (.t 0), none, [0]⟩,
       ⟨(some 13), .mv (.t 5), none, [5]⟩,
       ⟨(some 14), .ia 1 (.t 12) (.t 13), none, [12, 13]⟩,
       ⟨(some 15), .ld1 (.t 14), none, [14]⟩,
       ⟨(some 16), .bin (.str .eql) (.t 11) (.t 15), none, [11, 15]⟩])
    (RC.cond (.t 16)
     (RC.seq (RC.reg [⟨(some 17), .mv (.t 5), none, [5]⟩,
         ⟨(some 4), .mv (.t 17), none, [17]⟩])
      (RC.ret))
     (RC.skip)))))
  (RC.reg [⟨(some 18), .bin (.int .add) (.t 8) (.c (.int .i64 1)), none, [8]⟩,
    ⟨(some 8), .mv (.t 18), none, [18]⟩])))
def c81 : RC :=
  RC.seq (RC.reg [⟨(some 4), .mv (.c (.int .i64 0)), none, []⟩])
  (RC.seq (RC.seq (RC.reg [⟨(some 6), .mv (.t 0), none, [0]⟩,
      ⟨(some 7), .len .slice (.t 6), none, [6]⟩,
      ⟨(some 8), .mv (.c (.int .i64 0)), none, []⟩])
   (RC.block 0 (RC.loop c81l1)))
  (RC.seq (RC.reg [⟨(some 4), .mv (.c (.int .i64 (-1))), none, []⟩])
  (RC.ret)))
theorem c81_ok : resK Tryd.prog Tryd.f81.ntmps (Tryd.f81.body.getD .skip) = c81 := by kernel_rfl
theorem c81_res : resR Tryd.prog Tryd.f81.ntmps Tryd.f81.results.toList = [.t 4] := by kernel_rfl
theorem c81_ctr {args : List V} {h : Heap} {K : V → Heap → Prop} (hl : Nat.ble args.length 19 = true) (H : wpC Tryd.prog c81 (RF.ofL args) h fun e r h' => e.ends ∧ ∃ vs, evR r h' [.t 4] = some vs ∧ K (oneOf vs) h') : Ctr Tryd.prog 81 args h K :=
  ctr_of_wp follows namesOk Tryd.func81 (c := Tryd.f81.body.getD .skip) (by kernel_rfl) (by kernel_rfl) hl c81_ok c81_res H

/-- slices.IndexFunc[[]byte,byte] -/
def c88l1 : RC :=
  RC.seq (RC.reg [⟨(some 9), .bin (.int .lss) (.t 8) (.t 7), none, [8, 7]⟩])
  (RC.seq (RC.cond (.t 9)
    (RC.skip)
    (RC.exit 0))
  (RC.seq (RC.block 1 (RC.seq (RC.reg [⟨(some 10), .mv (.t 8), none, [8]⟩,
       ⟨(some 5), .mv (.t 10), none, [10]⟩])
    (RC.seq (RC.reg [⟨(some 11), .mv (.t 1), none, [1]⟩,
       ⟨(some 12), .mv (.t 0), none, [0]⟩,
       ⟨(some 13), .mv (.t 5), none, [5]⟩,
       ⟨(some 14), .ia 1 (.t 12) (.t 13), none, [12, 13]⟩,
       ⟨(some 15), .ld1 (.t 14), none, [14]⟩,
       ⟨(some 16), .callv (.t 11) [(.t 15)], none, [11, 15]⟩])
    (RC.cond (.t 16)
     (RC.seq (RC.reg [⟨(some 17), .mv (.t 5), none, [5]⟩,
         ⟨(some 4), .mv (.t 17), none, [17]⟩])
      (RC.ret))
     (RC.skip)))))
  (RC.reg [⟨(some 18), .bin (.int .add) (.t 8) (.c (.int .i64 1)), none, [8]⟩,
    ⟨(some 8), .mv (.t 18), none, [18]⟩])))
def c88 : RC :=
  RC.seq (RC.reg [⟨(some 4), .mv (.c (.int .i64 0)), none, []⟩])
  (RC.seq (RC.seq (RC.reg [⟨(some 6), .mv (.t 0), none, [0]⟩,
      ⟨(some 7), .len .slice (.t 6), none, [6]⟩,
      ⟨(some 8), .mv (.c (.int .i64 0)), none, []⟩])
   (RC.block 0 (RC.loop c88l1)))
  (RC.seq (RC.reg [⟨(some 4), .mv (.c (.int .i64 (-1))), none, []⟩])
  (RC.ret)))
theorem c88_ok : resK Tryd.prog Tryd.f88.ntmps (Tryd.f88.body.getD .skip) = c88 := by kernel_rfl
theorem c88_res : resR Tryd.prog Tryd.f88.ntmps Tryd.f88.results.toList = [.t 4] := by kernel_rfl
theorem c88_ctr {args : List V} {h : Heap} {K : V → Heap → Prop} (hl : Nat.ble args.length 19 = true) (H : wpC Tryd.prog c88 (RF.ofL args) h fun e r h' => e.ends ∧ ∃ vs, evR r h' [.t 4] = some vs ∧ K (oneOf vs) h') : Ctr Tryd.prog 88 args h K :=
  ctr_of_wp follows namesOk Tryd.func88 (c := Tryd.f88.body.getD .skip) (by kernel_rfl) (by kernel_rfl) hl c88_ok c88_res H

end Go.Proofs.YthcgccnbhdociaaDoor

namespace Go.Proofs.YthcgccnbhdociaaDoor
open Go Am
set_option linter.unusedSectionVars false
/-- gimlet/gimletlaw15.LexTells -/
def c3l1 : RC :=
  RC.seq (RC.seq (RC.reg [⟨(some 33), .mv (.t 7), none, [7]⟩,
      ⟨(some 34), .mv (.t 3), none, [3]⟩,
      ⟨(some 35), .len .slice (.t 34), none, [34]⟩,
      ⟨(some 36), .bin (.int .lss) (.t 33) (.t 35), none, [33, 35]⟩])
   (RC.cond (.t 36)
    (RC.skip)
    (RC.exit 0)))
  (RC.seq (RC.block 1 (RC.reg [⟨(some 39), .mv (.t 3), none, [3]⟩,
      ⟨(some 40), .mv (.t 7), none, [7]⟩,
      ⟨(some 41), .build [(.int .i64 0), (.int .i64 0), (.int .i64 0), (.str [])] [], none, []⟩,
      ⟨(some 42), .ia 4 (.t 39) (.t 40), none, [39, 40]⟩,
      ⟨none, .st 4 (.t 42) (.t 41), none, [42, 41]⟩]))
  (RC.reg [⟨(some 37), .mv (.t 7), none, [7]⟩,
    ⟨(some 38), .bin (.int .add) (.t 37) (.c (.int .i64 1)), none, [37]⟩,
    ⟨(some 7), .mv (.t 38), none, [38]⟩]))
def c3 : RC :=
  RC.seq (RC.reg [⟨(some 2), .mv (.c (.bool false)), none, []⟩])
  (RC.seq (RC.seq (RC.reg [⟨(some 10), .mv (.t 0), none, [0]⟩,
      ⟨(some 11), .len .str (.t 10), none, [10]⟩,
      ⟨(some 12), .bin (.int .gtr) (.t 11) (.c (.int .i64 3000)), none, [11]⟩])
   (RC.cond (.t 12)
    (RC.seq (RC.reg [⟨(some 13), .call 9 [], none, []⟩,
        ⟨(some 2), .mv (.t 13), none, [13]⟩])
     (RC.ret))
    (RC.skip)))
  (RC.seq (RC.reg [⟨(some 15), .mv (.t 0), none, [0]⟩,
     ⟨(some 16), .call 10 [(.t 15)], none, [15]⟩,
     ⟨(some 14), .mv (.t 16), none, [16]⟩,
     ⟨(some 17), .ext (.t 14) 0, none, [14]⟩,
     ⟨(some 18), .ext (.t 14) 1, none, [14]⟩,
     ⟨(some 4), .new [(.int .i64 0), (.int .i64 0)], none, []⟩,
     ⟨(some 3), .mv (.t 17), none, [17]⟩,
     ⟨none, .st 2 (.t 4) (.t 18), none, [4, 18]⟩])
  (RC.seq (RC.reg [⟨(some 20), .mv (.t 0), none, [0]⟩,
     ⟨(some 21), .call 11 [(.t 20)], none, [20]⟩,
     ⟨(some 19), .mv (.t 21), none, [21]⟩,
     ⟨(some 22), .ext (.t 19) 0, none, [19]⟩,
     ⟨(some 23), .ext (.t 19) 1, none, [19]⟩,
     ⟨(some 6), .new [(.int .i64 0), (.int .i64 0)], none, []⟩,
     ⟨(some 5), .mv (.t 22), none, [22]⟩,
     ⟨none, .st 2 (.t 6) (.t 23), none, [6, 23]⟩])
  (RC.seq (RC.seq (RC.reg [⟨(some 24), .mv (.t 3), none, [3]⟩,
      ⟨(some 25), .mv (.t 5), none, [5]⟩,
      ⟨(some 26), .call 12 [(.t 24), (.t 25)], none, [24, 25]⟩,
      ⟨(some 27), .un .not (.t 26), none, [26]⟩,
      ⟨(some 28), .mv (.t 27), none, [27]⟩,
      ⟨(some 29), .ldn 2 (.t 4), (some (28, false)), [4, 28]⟩,
      ⟨(some 30), .ldn 2 (.t 6), (some (28, false)), [6, 28]⟩,
      ⟨(some 31), .bin (.other .neq 26) (.t 29) (.t 30), (some (28, false)), [29, 30, 28]⟩,
      ⟨(some 32), .pick (.t 28) (.c (.bool true)) (.t 31), none, [28, 31]⟩])
   (RC.cond (.t 32)
    (RC.seq (RC.reg [⟨(some 2), .mv (.c (.bool false)), none, []⟩])
     (RC.ret))
    (RC.skip)))
  (RC.seq (RC.seq (RC.reg [⟨(some 7), .mv (.c (.int .i64 0)), none, []⟩])
   (RC.block 0 (RC.loop c3l1)))
  (RC.seq (RC.reg [⟨(some 44), .mv (.t 0), none, [0]⟩,
     ⟨(some 45), .call 10 [(.t 44)], none, [44]⟩,
     ⟨(some 43), .mv (.t 45), none, [45]⟩,
     ⟨(some 46), .ext (.t 43) 0, none, [43]⟩,
     ⟨(some 47), .ext (.t 43) 1, none, [43]⟩,
     ⟨(some 9), .new [(.int .i64 0), (.int .i64 0)], none, []⟩,
     ⟨(some 8), .mv (.t 46), none, [46]⟩,
     ⟨none, .st 2 (.t 9) (.t 47), none, [9, 47]⟩])
  (RC.seq (RC.reg [⟨(some 48), .mv (.t 8), none, [8]⟩,
     ⟨(some 49), .mv (.t 5), none, [5]⟩,
     ⟨(some 50), .call 12 [(.t 48), (.t 49)], none, [48, 49]⟩,
     ⟨(some 51), .mv (.t 50), none, [50]⟩,
     ⟨(some 52), .call 9 [], (some (51, true)), [51]⟩,
     ⟨(some 53), .pick (.t 51) (.t 52) (.c (.bool false)), none, [51, 52]⟩,
     ⟨(some 2), .mv (.t 53), none, [53]⟩])
  (RC.ret))))))))
/-- gimlet/gimletlaw15.LexRight -/
def c4 : RC :=
  RC.seq (RC.reg [⟨(some 2), .mv (.c (.bool false)), none, []⟩])
  (RC.seq (RC.reg [⟨(some 3), .mv (.t 0), none, [0]⟩,
     ⟨(some 4), .len .str (.t 3), none, [3]⟩,
     ⟨(some 5), .bin (.int .gtr) (.t 4) (.c (.int .i64 3000)), none, [4]⟩,
     ⟨(some 6), .mv (.t 5), none, [5]⟩,
     ⟨(some 7), .mv (.t 0), (some (6, false)), [0, 6]⟩,
     ⟨(some 8), .call 13 [(.t 7)], (some (6, false)), [7, 6]⟩,
     ⟨(some 9), .mv (.t 0), (some (6, false)), [0, 6]⟩,
     ⟨(some 10), .call 14 [(.t 9)], (some (6, false)), [9, 6]⟩,
     ⟨(some 11), .bin (.int .eql) (.t 8) (.t 10), (some (6, false)), [8, 10, 6]⟩,
     ⟨(some 12), .pick (.t 6) (.c (.bool true)) (.t 11), none, [6, 11]⟩,
     ⟨(some 13), .mv (.t 12), none, [12]⟩,
     ⟨(some 14), .call 9 [], (some (13, true)), [13]⟩,
     ⟨(some 15), .pick (.t 13) (.t 14) (.c (.bool false)), none, [13, 14]⟩,
     ⟨(some 2), .mv (.t 15), none, [15]⟩])
  (RC.ret))
/-- gimlet/gimletlaw15.LexKnown -/
def c7 : RC :=
  RC.seq (RC.reg [⟨(some 0), .mv (.c (.bool false)), none, []⟩])
  (RC.seq (RC.reg [⟨(some 6), .build [(.int .i64 0), (.int .i64 0), (.int .i64 0), (.str [])] [(0, 1, (.c (.int .i64 6))), (3, 1, (.c (.str [108, 101, 116])))], none, []⟩,
     ⟨(some 7), .build [(.int .i64 0), (.int .i64 0), (.int .i64 0), (.str [])] [(0, 1, (.c (.int .i64 3))), (3, 1, (.c (.str [120]))), (2, 1, (.c (.int .i64 4)))], none, []⟩,
     ⟨(some 8), .build [(.int .i64 0), (.int .i64 0), (.int .i64 0), (.str [])] [(0, 1, (.c (.int .i64 7))), (3, 1, (.c (.str [61]))), (2, 1, (.c (.int .i64 6)))], none, []⟩,
     ⟨(some 9), .build [(.int .i64 0), (.int .i64 0), (.int .i64 0), (.str [])] [(0, 1, (.c (.int .i64 2))), (3, 1, (.c (.str [97, 10]))), (2, 1, (.c (.int .i64 8)))], none, []⟩,
     ⟨(some 10), .build [(.int .i64 0), (.int .i64 0), (.int .i64 0), (.str [])] [(0, 1, (.c (.int .i64 6))), (3, 1, (.c (.str [105, 110]))), (2, 1, (.c (.int .i64 26)))], none, []⟩,
     ⟨(some 11), .build [(.int .i64 0), (.int .i64 0), (.int .i64 0), (.str [])] [(0, 1, (.c (.int .i64 3))), (3, 1, (.c (.str [120]))), (2, 1, (.c (.int .i64 29)))], none, []⟩,
     ⟨(some 12), .bsl 6 4 [(.int .i64 0), (.int .i64 0), (.int .i64 0), (.str [])] [(0, 4, (.t 6)), (4, 4, (.t 7)), (8, 4, (.t 8)), (12, 4, (.t 9)), (16, 4, (.t 10)), (20, 4, (.t 11))], none, [6, 7, 8, 9, 10, 11]⟩,
     ⟨(some 13), .call 20 [(.c (.str [108, 101, 116, 32, 120, 32, 61, 32, 34, 97, 92, 110, 34, 32, 40, 42, 32, 40, 42, 32, 42, 41, 32, 42, 41, 32, 105, 110, 32, 120])), (.t 12)], none, [12]⟩,
     ⟨(some 1), .mv (.t 13), none, [13]⟩])
  (RC.seq (RC.reg [⟨(some 14), .build [(.int .i64 0), (.int .i64 0), (.int .i64 0), (.str [])] [(0, 1, (.c (.int .i64 1))), (1, 1, (.c (.int .i64 (-1))))], none, []⟩,
     ⟨(some 15), .bsl 1 4 [(.int .i64 0), (.int .i64 0), (.int .i64 0), (.str [])] [(0, 4, (.t 14))], none, [14]⟩,
     ⟨(some 16), .call 20 [(.c (.str [50, 49, 52, 55, 52, 56, 51, 54, 52, 55])), (.t 15)], none, [15]⟩,
     ⟨(some 17), .mv (.t 16), none, [16]⟩,
     ⟨(some 18), .call 21 [(.c (.str [50, 49, 52, 55, 52, 56, 51, 54, 52, 56])), (.c (.int .i64 254)), (.c (.int .i64 0))], (some (17, true)), [17]⟩,
     ⟨(some 19), .pick (.t 17) (.t 18) (.c (.bool false)), none, [17, 18]⟩,
     ⟨(some 20), .mv (.t 19), none, [19]⟩,
     ⟨(some 21), .call 21 [(.c (.str [34, 97])), (.c (.int .i64 252)), (.c (.int .i64 0))], (some (20, true)), [20]⟩,
     ⟨(some 22), .pick (.t 20) (.t 21) (.c (.bool false)), none, [20, 21]⟩,
     ⟨(some 23), .mv (.t 22), none, [22]⟩,
     ⟨(some 24), .call 21 [(.c (.str [40, 42, 32, 97])), (.c (.int .i64 253)), (.c (.int .i64 0))], (some (23, true)), [23]⟩,
     ⟨(some 25), .pick (.t 23) (.t 24) (.c (.bool false)), none, [23, 24]⟩,
     ⟨(some 26), .mv (.t 25), none, [25]⟩,
     ⟨(some 27), .call 21 [(.c (.str [34, 92, 57, 34])), (.c (.int .i64 252)), (.c (.int .i64 0))], (some (26, true)), [26]⟩,
     ⟨(some 28), .pick (.t 26) (.t 27) (.c (.bool false)), none, [26, 27]⟩,
     ⟨(some 2), .mv (.t 28), none, [28]⟩])
  (RC.seq (RC.reg [⟨(some 29), .bsl 4 1 [(.int .u8 0)] [(0, 1, (.c (.int .u8 97))), (1, 1, (.c (.int .u8 195))), (2, 1, (.c (.int .u8 169))), (3, 1, (.c (.int .u8 255)))], none, []⟩,
     ⟨(some 30), .cv .str (.t 29), none, [29]⟩,
     ⟨(some 31), .call 13 [(.t 30)], none, [30]⟩,
     ⟨(some 32), .bin (.int .eql) (.t 31) (.c (.int .i64 3)), none, [31]⟩,
     ⟨(some 33), .mv (.t 32), none, [32]⟩,
     ⟨(some 34), .bsl 3 1 [(.int .u8 0)] [(0, 1, (.c (.int .u8 237))), (1, 1, (.c (.int .u8 160))), (2, 1, (.c (.int .u8 128)))], (some (33, true)), [33]⟩,
     ⟨(some 35), .cv .str (.t 34), (some (33, true)), [34, 33]⟩,
     ⟨(some 36), .call 13 [(.t 35)], (some (33, true)), [35, 33]⟩,
     ⟨(some 37), .bin (.int .eql) (.t 36) (.c (.int .i64 0)), (some (33, true)), [36, 33]⟩,
     ⟨(some 38), .pick (.t 33) (.t 37) (.c (.bool false)), none, [33, 37]⟩,
     ⟨(some 3), .mv (.t 38), none, [38]⟩])
  (RC.seq (RC.reg [⟨(some 40), .bsl 2 1 [(.int .u8 0)] [(0, 1, (.c (.int .u8 195))), (1, 1, (.c (.int .u8 169)))], none, []⟩,
     ⟨(some 41), .cv .str (.t 40), none, [40]⟩,
     ⟨(some 42), .build [(.int .i64 0), (.int .i64 0), (.int .i64 0), (.str [])] [(0, 1, (.c (.int .i64 2))), (3, 1, (.t 41))], none, [41]⟩,
     ⟨(some 43), .build [(.int .i64 0), (.int .i64 0), (.int .i64 0), (.str [])] [(0, 1, (.c (.int .i64 1))), (1, 1, (.c (.int .i64 (-1))))], none, []⟩,
     ⟨(some 44), .bsl 2 4 [(.int .i64 0), (.int .i64 0), (.int .i64 0), (.str [])] [(0, 4, (.t 42)), (4, 4, (.t 43))], none, [42, 43]⟩,
     ⟨(some 45), .call 18 [(.t 44)], none, [44]⟩,
     ⟨(some 39), .mv (.t 45), none, [45]⟩,
     ⟨(some 46), .ext (.t 39) 0, none, [39]⟩,
     ⟨(some 47), .ext (.t 39) 1, none, [39]⟩,
     ⟨(some 4), .mv (.t 46), none, [46]⟩,
     ⟨(some 5), .mv (.t 47), none, [47]⟩])
  (RC.seq (RC.reg [⟨(some 48), .call 9 [], none, []⟩,
     ⟨(some 49), .mv (.t 48), none, [48]⟩,
     ⟨(some 50), .mv (.t 1), (some (49, true)), [1, 49]⟩,
     ⟨(some 51), .pick (.t 49) (.t 50) (.c (.bool false)), none, [49, 50]⟩,
     ⟨(some 52), .mv (.t 51), none, [51]⟩,
     ⟨(some 53), .mv (.t 2), (some (52, true)), [2, 52]⟩,
     ⟨(some 54), .pick (.t 52) (.t 53) (.c (.bool false)), none, [52, 53]⟩,
     ⟨(some 55), .mv (.t 54), none, [54]⟩,
     ⟨(some 56), .mv (.t 3), (some (55, true)), [3, 55]⟩,
     ⟨(some 57), .pick (.t 55) (.t 56) (.c (.bool false)), none, [55, 56]⟩,
     ⟨(some 58), .mv (.t 57), none, [57]⟩,
     ⟨(some 59), .mv (.t 5), (some (58, true)), [5, 58]⟩,
     ⟨(some 60), .bin (.int .eql) (.t 59) (.c (.int .i64 0)), (some (58, true)), [59, 58]⟩,
     ⟨(some 61), .pick (.t 58) (.t 60) (.c (.bool false)), none, [58, 60]⟩,
     ⟨(some 62), .mv (.t 61), none, [61]⟩,
     ⟨(some 63), .mv (.t 4), (some (62, true)), [4, 62]⟩,
     ⟨(some 64), .bin (.str .eql) (.t 63) (.c (.str [34, 92, 49, 57, 53, 92, 49, 54, 57, 34, 32, 50, 49, 52, 55, 52, 56, 51, 54, 52, 55])), (some (62, true)), [63, 62]⟩,
     ⟨(some 65), .pick (.t 62) (.t 64) (.c (.bool false)), none, [62, 64]⟩,
     ⟨(some 0), .mv (.t 65), none, [65]⟩])
  (RC.ret))))))
theorem c7_ok : resK Tryd.prog Tryd.f7.ntmps (Tryd.f7.body.getD .skip) = c7 := by kernel_rfl
theorem c7_res : resR Tryd.prog Tryd.f7.ntmps Tryd.f7.results.toList = [.t 0] := by kernel_rfl
theorem c7_ctr {args : List V} {h : Heap} {K : V → Heap → Prop} (hl : Nat.ble args.length 66 = true) (H : wpC Tryd.prog c7 (RF.ofL args) h fun e r h' => e.ends ∧ ∃ vs, evR r h' [.t 0] = some vs ∧ K (oneOf vs) h') : Ctr Tryd.prog 7 args h K :=
  ctr_of_wp follows namesOk Tryd.func7 (c := Tryd.f7.body.getD .skip) (by kernel_rfl) (by kernel_rfl) hl c7_ok c7_res H

/-- gimlet/gimletlaw15.LexBack -/
def c8 : RC :=
  RC.seq (RC.reg [⟨(some 4), .mv (.c (.bool false)), none, []⟩])
  (RC.seq (RC.reg [⟨(some 12), .call 7 [], none, []⟩,
     ⟨(some 5), .mv (.t 12), none, [12]⟩])
  (RC.seq (RC.seq (RC.reg [⟨(some 13), .mv (.t 0), none, [0]⟩,
      ⟨(some 14), .call 17 [(.t 13), (.c (.int .i64 200))], none, [13]⟩,
      ⟨(some 15), .mv (.t 14), none, [14]⟩,
      ⟨(some 16), .mv (.t 1), (some (15, false)), [1, 15]⟩,
      ⟨(some 17), .len .str (.t 16), (some (15, false)), [16, 15]⟩,
      ⟨(some 18), .bin (.int .gtr) (.t 17) (.c (.int .i64 3000)), (some (15, false)), [17, 15]⟩,
      ⟨(some 19), .pick (.t 15) (.c (.bool true)) (.t 18), none, [15, 18]⟩])
   (RC.cond (.t 19)
    (RC.seq (RC.reg [⟨(some 20), .mv (.t 5), none, [5]⟩,
        ⟨(some 4), .mv (.t 20), none, [20]⟩])
     (RC.ret))
    (RC.skip)))
  (RC.seq (RC.reg [⟨(some 22), .mv (.t 0), none, [0]⟩,
     ⟨(some 23), .call 18 [(.t 22)], none, [22]⟩,
     ⟨(some 21), .mv (.t 23), none, [23]⟩,
     ⟨(some 24), .ext (.t 21) 0, none, [21]⟩,
     ⟨(some 25), .ext (.t 21) 1, none, [21]⟩,
     ⟨(some 6), .mv (.t 24), none, [24]⟩,
     ⟨(some 7), .mv (.t 25), none, [25]⟩])
  (RC.seq (RC.seq (RC.reg [⟨(some 26), .mv (.t 7), none, [7]⟩,
      ⟨(some 27), .bin (.int .eql) (.t 26) (.c (.int .i64 0)), none, [26]⟩,
      ⟨(some 28), .mv (.t 27), none, [27]⟩,
      ⟨(some 29), .mv (.t 6), (some (28, true)), [6, 28]⟩,
      ⟨(some 30), .len .str (.t 29), (some (28, true)), [29, 28]⟩,
      ⟨(some 31), .bin (.int .gtr) (.t 30) (.c (.int .i64 65536)), (some (28, true)), [30, 28]⟩,
      ⟨(some 32), .pick (.t 28) (.t 31) (.c (.bool false)), none, [28, 31]⟩])
   (RC.cond (.t 32)
    (RC.reg [⟨(some 33), .mv (.t 5), none, [5]⟩,
       ⟨(some 34), .mv (.t 33), none, [33]⟩,
       ⟨(some 35), .mv (.t 6), (some (34, true)), [6, 34]⟩,
       ⟨(some 36), .call 21 [(.t 35), (.c (.int .i64 3)), (.c (.int .i64 0))], (some (34, true)), [35, 34]⟩,
       ⟨(some 37), .pick (.t 34) (.t 36) (.c (.bool false)), none, [34, 36]⟩,
       ⟨(some 5), .mv (.t 37), none, [37]⟩])
    (RC.seq (RC.reg [⟨(some 38), .mv (.t 7), none, [7]⟩,
        ⟨(some 39), .bin (.int .eql) (.t 38) (.c (.int .i64 0)), none, [38]⟩,
        ⟨(some 40), .mv (.t 39), none, [39]⟩,
        ⟨(some 41), .mv (.t 6), (some (40, true)), [6, 40]⟩,
        ⟨(some 42), .mv (.t 0), (some (40, true)), [0, 40]⟩,
        ⟨(some 43), .call 22 [(.t 41), (.t 42)], (some (40, true)), [41, 42, 40]⟩,
        ⟨(some 44), .un .not (.t 43), (some (40, true)), [43, 40]⟩,
        ⟨(some 45), .pick (.t 40) (.t 44) (.c (.bool false)), none, [40, 44]⟩])
     (RC.cond (.t 45)
      (RC.seq (RC.reg [⟨(some 4), .mv (.c (.bool false)), none, []⟩])
       (RC.ret))
      (RC.skip)))))
  (RC.seq (RC.reg [⟨(some 47), .mv (.t 1), none, [1]⟩,
     ⟨(some 48), .call 10 [(.t 47)], none, [47]⟩,
     ⟨(some 46), .mv (.t 48), none, [48]⟩,
     ⟨(some 49), .ext (.t 46) 0, none, [46]⟩,
     ⟨(some 50), .ext (.t 46) 1, none, [46]⟩,
     ⟨(some 9), .new [(.int .i64 0), (.int .i64 0)], none, []⟩,
     ⟨(some 8), .mv (.t 49), none, [49]⟩,
     ⟨none, .st 2 (.t 9) (.t 50), none, [9, 50]⟩])
  (RC.seq (RC.seq (RC.reg [⟨(some 51), .fa 0 (.t 9), none, [9]⟩,
      ⟨(some 52), .ld1 (.t 51), none, [51]⟩,
      ⟨(some 53), .bin (.int .neq) (.t 52) (.c (.int .i64 0)), none, [52]⟩])
   (RC.cond (.t 53)
    (RC.seq (RC.reg [⟨(some 54), .mv (.t 5), none, [5]⟩,
        ⟨(some 55), .mv (.t 54), none, [54]⟩,
        ⟨(some 56), .mv (.t 8), (some (55, true)), [8, 55]⟩,
        ⟨(some 57), .len .slice (.t 56), (some (55, true)), [56, 55]⟩,
        ⟨(some 58), .bin (.int .eql) (.t 57) (.c (.int .i64 0)), (some (55, true)), [57, 55]⟩,
        ⟨(some 59), .pick (.t 55) (.t 58) (.c (.bool false)), none, [55, 58]⟩,
        ⟨(some 60), .mv (.t 59), none, [59]⟩,
        ⟨(some 61), .fa 1 (.t 9), (some (60, true)), [9, 60]⟩,
        ⟨(some 62), .ld1 (.t 61), (some (60, true)), [61, 60]⟩,
        ⟨(some 63), .bin (.int .geq) (.t 62) (.c (.int .i64 0)), (some (60, true)), [62, 60]⟩,
        ⟨(some 64), .pick (.t 60) (.t 63) (.c (.bool false)), none, [60, 63]⟩,
        ⟨(some 65), .mv (.t 64), none, [64]⟩,
        ⟨(some 66), .fa 1 (.t 9), (some (65, true)), [9, 65]⟩,
        ⟨(some 67), .ld1 (.t 66), (some (65, true)), [66, 65]⟩,
        ⟨(some 68), .mv (.t 1), (some (65, true)), [1, 65]⟩,
        ⟨(some 69), .len .str (.t 68), (some (65, true)), [68, 65]⟩,
        ⟨(some 70), .bin (.int .leq) (.t 67) (.t 69), (some (65, true)), [67, 69, 65]⟩,
        ⟨(some 71), .pick (.t 65) (.t 70) (.c (.bool false)), none, [65, 70]⟩,
        ⟨(some 4), .mv (.t 71), none, [71]⟩])
     (RC.ret))
    (RC.skip)))
  (RC.seq (RC.reg [⟨(some 73), .mv (.t 8), none, [8]⟩,
     ⟨(some 74), .call 18 [(.t 73)], none, [73]⟩,
     ⟨(some 72), .mv (.t 74), none, [74]⟩,
     ⟨(some 75), .ext (.t 72) 0, none, [72]⟩,
     ⟨(some 76), .ext (.t 72) 1, none, [72]⟩,
     ⟨(some 10), .mv (.t 75), none, [75]⟩,
     ⟨(some 11), .mv (.t 76), none, [76]⟩])
  (RC.seq (RC.reg [⟨(some 77), .mv (.t 5), none, [5]⟩,
     ⟨(some 78), .mv (.t 77), none, [77]⟩,
     ⟨(some 79), .mv (.t 11), (some (78, true)), [11, 78]⟩,
     ⟨(some 80), .bin (.int .eql) (.t 79) (.c (.int .i64 0)), (some (78, true)), [79, 78]⟩,
     ⟨(some 81), .pick (.t 78) (.t 80) (.c (.bool false)), none, [78, 80]⟩,
     ⟨(some 82), .mv (.t 81), none, [81]⟩,
     ⟨(some 83), .mv (.t 10), (some (82, true)), [10, 82]⟩,
     ⟨(some 84), .mv (.t 8), (some (82, true)), [8, 82]⟩,
     ⟨(some 85), .call 22 [(.t 83), (.t 84)], (some (82, true)), [83, 84, 82]⟩,
     ⟨(some 86), .pick (.t 82) (.t 85) (.c (.bool false)), none, [82, 85]⟩,
     ⟨(some 4), .mv (.t 86), none, [86]⟩])
  (RC.ret)))))))))
theorem c8_ok : resK Tryd.prog Tryd.f8.ntmps (Tryd.f8.body.getD .skip) = c8 := by kernel_rfl
theorem c8_res : resR Tryd.prog Tryd.f8.ntmps Tryd.f8.results.toList = [.t 4] := by kernel_rfl
theorem c8_ctr {args : List V} {h : Heap} {K : V → Heap → Prop} (hl : Nat.ble args.length 87 = true) (H : wpC Tryd.prog c8 (RF.ofL args) h fun e r h' => e.ends ∧ ∃ vs, evR r h' [.t 4] = some vs ∧ K (oneOf vs) h') : Ctr Tryd.prog 8 args h K :=
  ctr_of_wp follows namesOk Tryd.func8 (c := Tryd.f8.body.getD .skip) (by kernel_rfl) (by kernel_rfl) hl c8_ok c8_res H

/-- gimlet/gimletlaw15.awake -/
def c9 : RC :=
  RC.seq (RC.reg [⟨(some 0), .mv (.c (.bool false)), none, []⟩])
  (RC.seq (RC.reg [⟨(some 1), .build [(.int .i64 0), (.int .i64 0), (.int .i64 0), (.str [])] [(0, 1, (.c (.int .i64 5))), (3, 1, (.c (.str [97])))], none, []⟩,
     ⟨(some 2), .build [(.int .i64 0), (.int .i64 0), (.int .i64 0), (.str [])] [(0, 1, (.c (.int .i64 7))), (3, 1, (.c (.str [45, 62]))), (2, 1, (.c (.int .i64 3)))], none, []⟩,
     ⟨(some 3), .build [(.int .i64 0), (.int .i64 0), (.int .i64 0), (.str [])] [(0, 1, (.c (.int .i64 4))), (3, 1, (.c (.str [66]))), (2, 1, (.c (.int .i64 6)))], none, []⟩,
     ⟨(some 4), .bsl 3 4 [(.int .i64 0), (.int .i64 0), (.int .i64 0), (.str [])] [(0, 4, (.t 1)), (4, 4, (.t 2)), (8, 4, (.t 3))], none, [1, 2, 3]⟩,
     ⟨(some 5), .call 20 [(.c (.str [39, 97, 32, 45, 62, 32, 66])), (.t 4)], none, [4]⟩,
     ⟨(some 6), .mv (.t 5), none, [5]⟩,
     ⟨(some 7), .call 21 [(.c (.str [97, 32, 35, 32, 98])), (.c (.int .i64 251)), (.c (.int .i64 2))], (some (6, true)), [6]⟩,
     ⟨(some 8), .pick (.t 6) (.t 7) (.c (.bool false)), none, [6, 7]⟩,
     ⟨(some 0), .mv (.t 8), none, [8]⟩])
  (RC.ret))
theorem c9_ok : resK Tryd.prog Tryd.f9.ntmps (Tryd.f9.body.getD .skip) = c9 := by kernel_rfl
theorem c9_res : resR Tryd.prog Tryd.f9.ntmps Tryd.f9.results.toList = [.t 0] := by kernel_rfl
theorem c9_ctr {args : List V} {h : Heap} {K : V → Heap → Prop} (hl : Nat.ble args.length 9 = true) (H : wpC Tryd.prog c9 (RF.ofL args) h fun e r h' => e.ends ∧ ∃ vs, evR r h' [.t 0] = some vs ∧ K (oneOf vs) h') : Ctr Tryd.prog 9 args h K :=
  ctr_of_wp follows namesOk Tryd.func9 (c := Tryd.f9.body.getD .skip) (by kernel_rfl) (by kernel_rfl) hl c9_ok c9_res H

/-- gimlet/gimletkit.SameTokens -/
def c12l1 : RC :=
  RC.seq (RC.seq (RC.reg [⟨(some 11), .mv (.t 5), none, [5]⟩,
      ⟨(some 12), .mv (.t 0), none, [0]⟩,
      ⟨(some 13), .len .slice (.t 12), none, [12]⟩,
      ⟨(some 14), .bin (.int .lss) (.t 11) (.t 13), none, [11, 13]⟩])
   (RC.cond (.t 14)
    (RC.skip)
    (RC.exit 0)))
  (RC.seq (RC.block 1 (RC.seq (RC.draw [⟨(some 17), .mv (.t 0), none, [0]⟩,
       ⟨(some 18), .mv (.t 5), none, [5]⟩,
       ⟨(some 19), .ia 4 (.t 17) (.t 18), none, [17, 18]⟩,
       ⟨(some 20), .ldn 4 (.t 19), none, [19]⟩,
       ⟨(some 21), .mv (.t 1), none, [1]⟩,
       ⟨(some 22), .mv (.t 5), none, [5]⟩,
       ⟨(some 23), .ia 4 (.t 21) (.t 22), none, [21, 22]⟩,
       ⟨(some 24), .ldn 4 (.t 23), none, [23]⟩,
       ⟨(some 25), .bin (.other .neq 31) (.t 20) (.t 24), none, [20, 24]⟩] [])
    (RC.cond (.t 25)
     (RC.seq (RC.reg [⟨(some 4), .mv (.c (.bool false)), none, []⟩])
      (RC.ret))
     (RC.skip))))
  (RC.reg [⟨(some 15), .mv (.t 5), none, [5]⟩,
    ⟨(some 16), .bin (.int .add) (.t 15) (.c (.int .i64 1)), none, [15]⟩,
    ⟨(some 5), .mv (.t 16), none, [16]⟩]))
def c12 : RC :=
  RC.seq (RC.reg [⟨(some 4), .mv (.c (.bool false)), none, []⟩])
  (RC.seq (RC.seq (RC.reg [⟨(some 6), .mv (.t 0), none, [0]⟩,
      ⟨(some 7), .len .slice (.t 6), none, [6]⟩,
      ⟨(some 8), .mv (.t 1), none, [1]⟩,
      ⟨(some 9), .len .slice (.t 8), none, [8]⟩,
      ⟨(some 10), .bin (.int .neq) (.t 7) (.t 9), none, [7, 9]⟩])
   (RC.cond (.t 10)
    (RC.seq (RC.reg [⟨(some 4), .mv (.c (.bool false)), none, []⟩])
     (RC.ret))
    (RC.skip)))
  (RC.seq (RC.seq (RC.reg [⟨(some 5), .mv (.c (.int .i64 0)), none, []⟩])
   (RC.block 0 (RC.loop c12l1)))
  (RC.seq (RC.reg [⟨(some 4), .mv (.c (.bool true)), none, []⟩])
  (RC.ret))))
theorem c12_ok : resK Tryd.prog Tryd.f12.ntmps (Tryd.f12.body.getD .skip) = c12 := by kernel_rfl
theorem c12_res : resR Tryd.prog Tryd.f12.ntmps Tryd.f12.results.toList = [.t 4] := by kernel_rfl
theorem c12_ctr {args : List V} {h : Heap} {K : V → Heap → Prop} (hl : Nat.ble args.length 26 = true) (H : wpC Tryd.prog c12 (RF.ofL args) h fun e r h' => e.ends ∧ ∃ vs, evR r h' [.t 4] = some vs ∧ K (oneOf vs) h') : Ctr Tryd.prog 12 args h K :=
  ctr_of_wp follows namesOk Tryd.func12 (c := Tryd.f12.body.getD .skip) (by kernel_rfl) (by kernel_rfl) hl c12_ok c12_res H

/-- gimlet/gimletkit.LargeWords -/
def c17l1 : RC :=
  RC.seq (RC.seq (RC.reg [⟨(some 6), .mv (.t 5), none, [5]⟩,
      ⟨(some 7), .mv (.t 0), none, [0]⟩,
      ⟨(some 8), .len .slice (.t 7), none, [7]⟩,
      ⟨(some 9), .bin (.int .lss) (.t 6) (.t 8), none, [6, 8]⟩])
   (RC.cond (.t 9)
    (RC.skip)
    (RC.exit 0)))
  (RC.seq (RC.block 1 (RC.seq (RC.reg [⟨(some 12), .mv (.t 0), none, [0]⟩,
       ⟨(some 13), .mv (.t 5), none, [5]⟩,
       ⟨(some 14), .ia 4 (.t 12) (.t 13), none, [12, 13]⟩,
       ⟨(some 15), .fa 3 (.t 14), none, [14]⟩,
       ⟨(some 16), .ld1 (.t 15), none, [15]⟩,
       ⟨(some 17), .len .str (.t 16), none, [16]⟩,
       ⟨(some 18), .bin (.int .gtr) (.t 17) (.c (.int .i64 200)), none, [17]⟩])
    (RC.cond (.t 18)
     (RC.seq (RC.reg [⟨(some 4), .mv (.c (.bool true)), none, []⟩])
      (RC.ret))
     (RC.skip))))
  (RC.reg [⟨(some 10), .mv (.t 5), none, [5]⟩,
    ⟨(some 11), .bin (.int .add) (.t 10) (.c (.int .i64 1)), none, [10]⟩,
    ⟨(some 5), .mv (.t 11), none, [11]⟩]))
def c17 : RC :=
  RC.seq (RC.reg [⟨(some 4), .mv (.c (.bool false)), none, []⟩])
  (RC.seq (RC.seq (RC.reg [⟨(some 5), .mv (.c (.int .i64 0)), none, []⟩])
   (RC.block 0 (RC.loop c17l1)))
  (RC.seq (RC.reg [⟨(some 19), .mv (.t 0), none, [0]⟩,
     ⟨(some 20), .len .slice (.t 19), none, [19]⟩,
     ⟨(some 21), .mv (.t 1), none, [1]⟩,
     ⟨(some 22), .bin (.int .gtr) (.t 20) (.t 21), none, [20, 21]⟩,
     ⟨(some 4), .mv (.t 22), none, [22]⟩])
  (RC.ret)))
theorem c17_ok : resK Tryd.prog Tryd.f17.ntmps (Tryd.f17.body.getD .skip) = c17 := by kernel_rfl
theorem c17_res : resR Tryd.prog Tryd.f17.ntmps Tryd.f17.results.toList = [.t 4] := by kernel_rfl
theorem c17_ctr {args : List V} {h : Heap} {K : V → Heap → Prop} (hl : Nat.ble args.length 23 = true) (H : wpC Tryd.prog c17 (RF.ofL args) h fun e r h' => e.ends ∧ ∃ vs, evR r h' [.t 4] = some vs ∧ K (oneOf vs) h') : Ctr Tryd.prog 17 args h K :=
  ctr_of_wp follows namesOk Tryd.func17 (c := Tryd.f17.body.getD .skip) (by kernel_rfl) (by kernel_rfl) hl c17_ok c17_res H

/-- gimlet/gimletlaw15.has -/
def c20 : RC :=
  RC.seq (RC.reg [⟨(some 4), .mv (.c (.bool false)), none, []⟩])
  (RC.seq (RC.reg [⟨(some 8), .mv (.t 0), none, [0]⟩,
     ⟨(some 9), .call 10 [(.t 8)], none, [8]⟩,
     ⟨(some 7), .mv (.t 9), none, [9]⟩,
     ⟨(some 10), .ext (.t 7) 0, none, [7]⟩,
     ⟨(some 11), .ext (.t 7) 1, none, [7]⟩,
     ⟨(some 6), .new [(.int .i64 0), (.int .i64 0)], none, []⟩,
     ⟨(some 5), .mv (.t 10), none, [10]⟩,
     ⟨none, .st 2 (.t 6) (.t 11), none, [6, 11]⟩])
  (RC.seq (RC.reg [⟨(some 12), .ldn 2 (.t 6), none, [6]⟩,
     ⟨(some 13), .build [(.int .i64 0), (.int .i64 0)] [], none, []⟩,
     ⟨(some 14), .bin (.other .eql 26) (.t 12) (.t 13), none, [12, 13]⟩,
     ⟨(some 15), .mv (.t 14), none, [14]⟩,
     ⟨(some 16), .mv (.t 5), (some (15, true)), [5, 15]⟩,
     ⟨(some 17), .mv (.t 1), (some (15, true)), [1, 15]⟩,
     ⟨(some 18), .call 12 [(.t 16), (.t 17)], (some (15, true)), [16, 17, 15]⟩,
     ⟨(some 19), .pick (.t 15) (.t 18) (.c (.bool false)), none, [15, 18]⟩,
     ⟨(some 4), .mv (.t 19), none, [19]⟩])
  (RC.ret)))
theorem c20_ok : resK Tryd.prog Tryd.f20.ntmps (Tryd.f20.body.getD .skip) = c20 := by kernel_rfl
theorem c20_res : resR Tryd.prog Tryd.f20.ntmps Tryd.f20.results.toList = [.t 4] := by kernel_rfl
theorem c20_ctr {args : List V} {h : Heap} {K : V → Heap → Prop} (hl : Nat.ble args.length 20 = true) (H : wpC Tryd.prog c20 (RF.ofL args) h fun e r h' => e.ends ∧ ∃ vs, evR r h' [.t 4] = some vs ∧ K (oneOf vs) h') : Ctr Tryd.prog 20 args h K :=
  ctr_of_wp follows namesOk Tryd.func20 (c := Tryd.f20.body.getD .skip) (by kernel_rfl) (by kernel_rfl) hl c20_ok c20_res H

/-- gimlet/gimletlaw15.faulty -/
def c21 : RC :=
  RC.seq (RC.reg [⟨(some 6), .mv (.c (.bool false)), none, []⟩])
  (RC.seq (RC.reg [⟨(some 10), .mv (.t 0), none, [0]⟩,
     ⟨(some 11), .call 10 [(.t 10)], none, [10]⟩,
     ⟨(some 9), .mv (.t 11), none, [11]⟩,
     ⟨(some 12), .ext (.t 9) 0, none, [9]⟩,
     ⟨(some 13), .ext (.t 9) 1, none, [9]⟩,
     ⟨(some 8), .new [(.int .i64 0), (.int .i64 0)], none, []⟩,
     ⟨(some 7), .mv (.t 12), none, [12]⟩,
     ⟨none, .st 2 (.t 8) (.t 13), none, [8, 13]⟩])
  (RC.seq (RC.reg [⟨(some 14), .mv (.t 7), none, [7]⟩,
     ⟨(some 15), .len .slice (.t 14), none, [14]⟩,
     ⟨(some 16), .bin (.int .eql) (.t 15) (.c (.int .i64 0)), none, [15]⟩,
     ⟨(some 17), .mv (.t 16), none, [16]⟩,
     ⟨(some 18), .ldn 2 (.t 8), (some (17, true)), [8, 17]⟩,
     ⟨(some 19), .mv (.t 1), (some (17, true)), [1, 17]⟩,
     ⟨(some 20), .mv (.t 2), (some (17, true)), [2, 17]⟩,
     ⟨(some 21), .build [(.int .i64 0), (.int .i64 0)] [(0, 1, (.t 19)), (1, 1, (.t 20))], (some (17, true)), [19, 20, 17]⟩,
     ⟨(some 22), .bin (.other .eql 26) (.t 18) (.t 21), (some (17, true)), [18, 21, 17]⟩,
     ⟨(some 23), .pick (.t 17) (.t 22) (.c (.bool false)), none, [17, 22]⟩,
     ⟨(some 6), .mv (.t 23), none, [23]⟩])
  (RC.ret)))
theorem c21_ok : resK Tryd.prog Tryd.f21.ntmps (Tryd.f21.body.getD .skip) = c21 := by kernel_rfl
theorem c21_res : resR Tryd.prog Tryd.f21.ntmps Tryd.f21.results.toList = [.t 6] := by kernel_rfl
theorem c21_ctr {args : List V} {h : Heap} {K : V → Heap → Prop} (hl : Nat.ble args.length 24 = true) (H : wpC Tryd.prog c21 (RF.ofL args) h fun e r h' => e.ends ∧ ∃ vs, evR r h' [.t 6] = some vs ∧ K (oneOf vs) h') : Ctr Tryd.prog 21 args h K :=
  ctr_of_wp follows namesOk Tryd.func21 (c := Tryd.f21.body.getD .skip) (by kernel_rfl) (by kernel_rfl) hl c21_ok c21_res H

/-- gimlet/gimletlaw15.again -/
def c22l1 : RC :=
  RC.seq (RC.seq (RC.reg [⟨(some 23), .mv (.t 7), none, [7]⟩,
      ⟨(some 24), .mv (.t 5), none, [5]⟩,
      ⟨(some 25), .len .slice (.t 24), none, [24]⟩,
      ⟨(some 26), .bin (.int .lss) (.t 23) (.t 25), none, [23, 25]⟩])
   (RC.cond (.t 26)
    (RC.skip)
    (RC.exit 0)))
  (RC.seq (RC.block 1 (RC.seq (RC.draw [⟨(some 29), .mv (.t 5), none, [5]⟩,
       ⟨(some 30), .mv (.t 7), none, [7]⟩,
       ⟨(some 31), .ia 4 (.t 29) (.t 30), none, [29, 30]⟩,
       ⟨(some 32), .fa 0 (.t 31), none, [31]⟩,
       ⟨(some 33), .ld1 (.t 32), none, [32]⟩,
       ⟨(some 34), .mv (.t 1), none, [1]⟩,
       ⟨(some 35), .mv (.t 7), none, [7]⟩,
       ⟨(some 36), .ia 4 (.t 34) (.t 35), none, [34, 35]⟩,
       ⟨(some 37), .fa 0 (.t 36), none, [36]⟩,
       ⟨(some 38), .ld1 (.t 37), none, [37]⟩,
       ⟨(some 39), .bin (.int .neq) (.t 33) (.t 38), none, [33, 38]⟩,
       ⟨(some 40), .mv (.t 39), none, [39]⟩,
       ⟨(some 41), .mv (.t 5), (some (40, false)), [5, 40]⟩,
       ⟨(some 42), .mv (.t 7), (some (40, false)), [7, 40]⟩,
       ⟨(some 43), .ia 4 (.t 41) (.t 42), (some (40, false)), [41, 42, 40]⟩,
       ⟨(some 44), .fa 1 (.t 43), (some (40, false)), [43, 40]⟩,
       ⟨(some 45), .ld1 (.t 44), (some (40, false)), [44, 40]⟩,
       ⟨(some 46), .mv (.t 1), (some (40, false)), [1, 40]⟩,
       ⟨(some 47), .mv (.t 7), (some (40, false)), [7, 40]⟩,
       ⟨(some 48), .ia 4 (.t 46) (.t 47), (some (40, false)), [46, 47, 40]⟩,
       ⟨(some 49), .fa 1 (.t 48), (some (40, false)), [48, 40]⟩,
       ⟨(some 50), .ld1 (.t 49), (some (40, false)), [49, 40]⟩,
       ⟨(some 51), .bin (.int .neq) (.t 45) (.t 50), (some (40, false)), [45, 50, 40]⟩,
       ⟨(some 52), .pick (.t 40) (.c (.bool true)) (.t 51), none, [40, 51]⟩,
       ⟨(some 53), .mv (.t 52), none, [52]⟩,
       ⟨(some 54), .mv (.t 5), (some (53, false)), [5, 53]⟩,
       ⟨(some 55), .mv (.t 7), (some (53, false)), [7, 53]⟩,
       ⟨(some 56), .ia 4 (.t 54) (.t 55), (some (53, false)), [54, 55, 53]⟩,
       ⟨(some 57), .fa 3 (.t 56), (some (53, false)), [56, 53]⟩,
       ⟨(some 58), .ld1 (.t 57), (some (53, false)), [57, 53]⟩,
       ⟨(some 59), .mv (.t 1), (some (53, false)), [1, 53]⟩,
       ⟨(some 60), .mv (.t 7), (some (53, false)), [7, 53]⟩,
       ⟨(some 61), .ia 4 (.t 59) (.t 60), (some (53, false)), [59, 60, 53]⟩,
       ⟨(some 62), .fa 3 (.t 61), (some (53, false)), [61, 53]⟩,
       ⟨(some 63), .ld1 (.t 62), (some (53, false)), [62, 53]⟩,
       ⟨(some 64), .bin (.str .neq) (.t 58) (.t 63), (some (53, false)), [58, 63, 53]⟩,
       ⟨(some 65), .pick (.t 53) (.c (.bool true)) (.t 64), none, [53, 64]⟩,
       ⟨(some 66), .mv (.t 65), none, [65]⟩,
       ⟨(some 67), .mv (.t 7), (some (66, false)), [7, 66]⟩,
       ⟨(some 68), .bin (.int .gtr) (.t 67) (.c (.int .i64 0)), (some (66, false)), [67, 66]⟩,
       ⟨(some 69), .mv (.t 68), (some (66, false)), [68, 66]⟩,
       ⟨(some 70), .mv (.t 5), (some (69, true)), [5, 69]⟩,
       ⟨(some 71), .mv (.t 7), (some (69, true)), [7, 69]⟩,
       ⟨(some 72), .ia 4 (.t 70) (.t 71), (some (69, true)), [70, 71, 69]⟩,
       ⟨(some 73), .fa 2 (.t 72), (some (69, true)), [72, 69]⟩,
       ⟨(some 74), .ld1 (.t 73), (some (69, true)), [73, 69]⟩,
       ⟨(some 75), .mv (.t 5), (some (69, true)), [5, 69]⟩,
       ⟨(some 76), .mv (.t 7), (some (69, true)), [7, 69]⟩,
       ⟨(some 77), .bin (.int .sub) (.t 76) (.c (.int .i64 1)), (some (69, true)), [76, 69]⟩,
       ⟨(some 78), .ia 4 (.t 75) (.t 77), (some (69, true)), [75, 77, 69]⟩,
       ⟨(some 79), .fa 2 (.t 78), (some (69, true)), [78, 69]⟩,
       ⟨(some 80), .ld1 (.t 79), (some (69, true)), [79, 69]⟩,
       ⟨(some 81), .bin (.int .leq) (.t 74) (.t 80), (some (69, true)), [74, 80, 69]⟩,
       ⟨(some 82), .pick (.t 69) (.t 81) (.c (.bool false)), (some (66, false)), [69, 81, 66]⟩,
       ⟨(some 83), .pick (.t 66) (.c (.bool true)) (.t 82), none, [66, 82]⟩] [])
    (RC.cond (.t 83)
     (RC.seq (RC.reg [⟨(some 4), .mv (.c (.bool false)), none, []⟩])
      (RC.ret))
     (RC.skip))))
  (RC.reg [⟨(some 27), .mv (.t 7), none, [7]⟩,
    ⟨(some 28), .bin (.int .add) (.t 27) (.c (.int .i64 1)), none, [27]⟩,
    ⟨(some 7), .mv (.t 28), none, [28]⟩]))
def c22 : RC :=
  RC.seq (RC.reg [⟨(some 4), .mv (.c (.bool false)), none, []⟩])
  (RC.seq (RC.reg [⟨(some 9), .mv (.t 0), none, [0]⟩,
     ⟨(some 10), .call 10 [(.t 9)], none, [9]⟩,
     ⟨(some 8), .mv (.t 10), none, [10]⟩,
     ⟨(some 11), .ext (.t 8) 0, none, [8]⟩,
     ⟨(some 12), .ext (.t 8) 1, none, [8]⟩,
     ⟨(some 6), .new [(.int .i64 0), (.int .i64 0)], none, []⟩,
     ⟨(some 5), .mv (.t 11), none, [11]⟩,
     ⟨none, .st 2 (.t 6) (.t 12), none, [6, 12]⟩])
  (RC.seq (RC.seq (RC.reg [⟨(some 13), .fa 0 (.t 6), none, [6]⟩,
      ⟨(some 14), .ld1 (.t 13), none, [13]⟩,
      ⟨(some 15), .bin (.int .neq) (.t 14) (.c (.int .i64 0)), none, [14]⟩,
      ⟨(some 16), .mv (.t 15), none, [15]⟩,
      ⟨(some 17), .mv (.t 5), (some (16, false)), [5, 16]⟩,
      ⟨(some 18), .len .slice (.t 17), (some (16, false)), [17, 16]⟩,
      ⟨(some 19), .mv (.t 1), (some (16, false)), [1, 16]⟩,
      ⟨(some 20), .len .slice (.t 19), (some (16, false)), [19, 16]⟩,
      ⟨(some 21), .bin (.int .neq) (.t 18) (.t 20), (some (16, false)), [18, 20, 16]⟩,
      ⟨(some 22), .pick (.t 16) (.c (.bool true)) (.t 21), none, [16, 21]⟩])
   (RC.cond (.t 22)
    (RC.seq (RC.reg [⟨(some 4), .mv (.c (.bool false)), none, []⟩])
     (RC.ret))
    (RC.skip)))
  (RC.seq (RC.seq (RC.reg [⟨(some 7), .mv (.c (.int .i64 0)), none, []⟩])
   (RC.block 0 (RC.loop c22l1)))
  (RC.seq (RC.reg [⟨(some 4), .mv (.c (.bool true)), none, []⟩])
  (RC.ret)))))
theorem c22_ok : resK Tryd.prog Tryd.f22.ntmps (Tryd.f22.body.getD .skip) = c22 := by kernel_rfl
theorem c22_res : resR Tryd.prog Tryd.f22.ntmps Tryd.f22.results.toList = [.t 4] := by kernel_rfl
theorem c22_ctr {args : List V} {h : Heap} {K : V → Heap → Prop} (hl : Nat.ble args.length 84 = true) (H : wpC Tryd.prog c22 (RF.ofL args) h fun e r h' => e.ends ∧ ∃ vs, evR r h' [.t 4] = some vs ∧ K (oneOf vs) h') : Ctr Tryd.prog 22 args h K :=
  ctr_of_wp follows namesOk Tryd.func22 (c := Tryd.f22.body.getD .skip) (by kernel_rfl) (by kernel_rfl) hl c22_ok c22_res H

end Go.Proofs.YthcgccnbhdociaaDoor

namespace Go.Proofs.YthcgccnbhdociaaDoor
open Go Am
set_option linter.unusedSectionVars false
set_option linter.unusedSimpArgs false
set_option linter.unusedVariables false

theorem pure_calls {f : FuncId} {args : List V} {h : Heap} {v : V} (c : Ctr Tryd.prog f args h fun x h' => x = v ∧ h' = h) : CallsV Tryd.prog f args h v h := by
  obtain ⟨x, h', q, rfl, rfl⟩ := c
  exact q

def digitB (c : Int) : Bool := decide (48 ≤ c) && decide (c ≤ 57)
def smallB (c : Int) : Bool := decide (97 ≤ c) && decide (c ≤ 122)
def greatB (c : Int) : Bool := decide (65 ≤ c) && decide (c ≤ 90)
def letterB (c : Int) : Bool := digitB c || smallB c || greatB c || decide (c = 95) || decide (c = 39)
theorem digit_pure (c : Int) (h : Heap) : CallsV Tryd.prog 44 [.int .u8 c] h (.bool (digitB c)) h := by
  refine pure_calls (c44_ctr rfl (wpK_of ?_))
  unfold c44
  simp +contextual only [↓wA, wB, wZ, repeatV, RX.evs, spl, over, ones, Ex.ends, evR, oneOf, top, ↓reduceIte, Nat.reduceEqDiff, Nat.reduceLeDiff, Nat.reduceAdd, Nat.reduceSub, Nat.reduceMul, reduceCtorEq, Int.reduceEq, Int.reduceLT, Int.reduceLE, Int.reduceNeg, Int.reduceAdd, Int.reduceSub]
  rfl
theorem small_pure (c : Int) (h : Heap) : CallsV Tryd.prog 47 [.int .u8 c] h (.bool (smallB c)) h := by
  refine pure_calls (c47_ctr rfl (wpK_of ?_))
  unfold c47
  simp +contextual only [↓wA, wB, wZ, repeatV, RX.evs, spl, over, ones, Ex.ends, evR, oneOf, top, ↓reduceIte, Nat.reduceEqDiff, Nat.reduceLeDiff, Nat.reduceAdd, Nat.reduceSub, Nat.reduceMul, reduceCtorEq, Int.reduceEq, Int.reduceLT, Int.reduceLE, Int.reduceNeg, Int.reduceAdd, Int.reduceSub]
  rfl
theorem great_pure (c : Int) (h : Heap) : CallsV Tryd.prog 49 [.int .u8 c] h (.bool (greatB c)) h := by
  refine pure_calls (c49_ctr rfl (wpK_of ?_))
  unfold c49
  simp +contextual only [↓wA, wB, wZ, repeatV, RX.evs, spl, over, ones, Ex.ends, evR, oneOf, top, ↓reduceIte, Nat.reduceEqDiff, Nat.reduceLeDiff, Nat.reduceAdd, Nat.reduceSub, Nat.reduceMul, reduceCtorEq, Int.reduceEq, Int.reduceLT, Int.reduceLE, Int.reduceNeg, Int.reduceAdd, Int.reduceSub]
  rfl
theorem hasPrefix_pure (s p : List UInt8) (h : Heap) : CallsV Tryd.prog 73 [.str s, .str p] h (.bool (p.isPrefixOf s)) h := by
  refine pure_calls (c73_ctr rfl (wpK_of ?_))
  unfold c73
  have h0 : (0 ≤ (p.length : Int)) = True := eq_true (by omega)
  by_cases hl : p.length ≤ s.length
  · have h1 : ((p.length : Int) ≤ (s.length : Int)) = True := eq_true (by omega)
    simp +contextual only [h0, h1, Int.toNat_natCast, ↓wA, wB, wZ, repeatV, RX.evs, spl, over, ones, Ex.ends, evR, oneOf, top, ↓reduceIte, Nat.reduceEqDiff, Nat.reduceLeDiff, Nat.reduceAdd, Nat.reduceSub, Nat.reduceMul, reduceCtorEq, Int.reduceEq, Int.reduceLT, Int.reduceLE, Int.reduceNeg, Int.reduceAdd, Int.reduceSub]
    rw [Bool.eq_iff_iff, decide_eq_true_eq, List.isPrefixOf_iff_prefix, List.prefix_iff_eq_take]
    exact ⟨fun e => e.symm, fun e => e.symm⟩
  · have h1 : ((p.length : Int) ≤ (s.length : Int)) = False := eq_false (by omega)
    simp +contextual only [h0, h1, Int.toNat_natCast, ↓wA, wB, wZ, repeatV, RX.evs, spl, over, ones, Ex.ends, evR, oneOf, top, ↓reduceIte, Nat.reduceEqDiff, Nat.reduceLeDiff, Nat.reduceAdd, Nat.reduceSub, Nat.reduceMul, reduceCtorEq, Int.reduceEq, Int.reduceLT, Int.reduceLE, Int.reduceNeg, Int.reduceAdd, Int.reduceSub]
    rw [eq_comm, ← Bool.not_eq_true, List.isPrefixOf_iff_prefix]
    exact fun e => hl e.length_le
theorem hasPrefix0_pure (s p : List UInt8) (h : Heap) : CallsV Tryd.prog 43 [.str s, .str p] h (.bool (p.isPrefixOf s)) h := by
  refine pure_calls (c43_ctr rfl (wpK_of ?_))
  unfold c43
  simp +contextual only [↓wA, wB, wZ, repeatV, RX.evs, spl, over, ones, Ex.ends, evR, oneOf, top, ↓reduceIte, Nat.reduceEqDiff, Nat.reduceLeDiff, Nat.reduceAdd, Nat.reduceSub, Nat.reduceMul, reduceCtorEq, Int.reduceEq, Int.reduceLT, Int.reduceLE, Int.reduceNeg, Int.reduceAdd, Int.reduceSub]
  refine callK_pure (hasPrefix_pure s p h) ?_
  simp +contextual only [↓wA, wB, wZ, repeatV, RX.evs, spl, over, ones, Ex.ends, evR, oneOf, top, ↓reduceIte, Nat.reduceEqDiff, Nat.reduceLeDiff, Nat.reduceAdd, Nat.reduceSub, Nat.reduceMul, reduceCtorEq, Int.reduceEq, Int.reduceLT, Int.reduceLE, Int.reduceNeg, Int.reduceAdd, Int.reduceSub]
theorem letter_pure (c : Int) (h : Heap) : CallsV Tryd.prog 77 [.int .u8 c] h (.bool (letterB c)) h := by
  refine pure_calls (c77_ctr rfl (wpK_of ?_))
  unfold c77
  simp +contextual only [↓wA, wB, wZ, repeatV, RX.evs, spl, over, ones, Ex.ends, evR, oneOf, top, ↓reduceIte, Nat.reduceEqDiff, Nat.reduceLeDiff, Nat.reduceAdd, Nat.reduceSub, Nat.reduceMul, reduceCtorEq, Int.reduceEq, Int.reduceLT, Int.reduceLE, Int.reduceNeg, Int.reduceAdd, Int.reduceSub]
  refine callK_pure (digit_pure c h) ?_
  simp +contextual only [↓wA, wB, wZ, repeatV, RX.evs, spl, over, ones, Ex.ends, evR, oneOf, top, ↓reduceIte, Nat.reduceEqDiff, Nat.reduceLeDiff, Nat.reduceAdd, Nat.reduceSub, Nat.reduceMul, reduceCtorEq, Int.reduceEq, Int.reduceLT, Int.reduceLE, Int.reduceNeg, Int.reduceAdd, Int.reduceSub]
  refine gateK_callF0 (.bool (smallB c)) (fun hc => by simp only [hc, ↓wA, wB, wZ, repeatV, RX.evs, spl, over, ones, Ex.ends, evR, oneOf, top, ↓reduceIte, Nat.reduceEqDiff, Nat.reduceLeDiff, Nat.reduceAdd, Nat.reduceSub, Nat.reduceMul, reduceCtorEq, Int.reduceEq, Int.reduceLT, Int.reduceLE, Int.reduceNeg, Int.reduceAdd, Int.reduceSub]; exact small_pure _ _) ?_
  simp +contextual only [↓wA, wB, wZ, repeatV, RX.evs, spl, over, ones, Ex.ends, evR, oneOf, top, ↓reduceIte, Nat.reduceEqDiff, Nat.reduceLeDiff, Nat.reduceAdd, Nat.reduceSub, Nat.reduceMul, reduceCtorEq, Int.reduceEq, Int.reduceLT, Int.reduceLE, Int.reduceNeg, Int.reduceAdd, Int.reduceSub]
  refine gateK_callF0 (.bool (greatB c)) (fun hc => by simp only [hc, ↓wA, wB, wZ, repeatV, RX.evs, spl, over, ones, Ex.ends, evR, oneOf, top, ↓reduceIte, Nat.reduceEqDiff, Nat.reduceLeDiff, Nat.reduceAdd, Nat.reduceSub, Nat.reduceMul, reduceCtorEq, Int.reduceEq, Int.reduceLT, Int.reduceLE, Int.reduceNeg, Int.reduceAdd, Int.reduceSub]; exact great_pure _ _) ?_
  simp +contextual only [↓wA, wB, wZ, repeatV, RX.evs, spl, over, ones, Ex.ends, evR, oneOf, top, ↓reduceIte, Nat.reduceEqDiff, Nat.reduceLeDiff, Nat.reduceAdd, Nat.reduceSub, Nat.reduceMul, reduceCtorEq, Int.reduceEq, Int.reduceLT, Int.reduceLE, Int.reduceNeg, Int.reduceAdd, Int.reduceSub]
  rfl
/-- scanner.has, reader.starts -/
theorem has_pure (s p : List UInt8) (at' : Int) (rest : List V) (b : Pa) (esz : Nat) (st : Bool) (h : Heap) (hb : h.get b = .ofL (.str s :: .int .i64 at' :: rest) esz st) (h0 : 0 ≤ at') (h1 : at' ≤ s.length) :
    CallsV Tryd.prog 24 [.ptr b 0, .str p] h (.bool (p.isPrefixOf (s.drop at'.toNat))) h := by
  refine pure_calls (c24_ctr rfl (wpK_of ?_))
  unfold c24
  have f0 : (0 ≤ at') = True := eq_true h0
  have f1 : (at' ≤ (s.length : Int)) = True := eq_true h1
  simp +contextual only [hb, f0, f1, ↓wA, wB, wZ, repeatV, RX.evs, spl, over, ones, Ex.ends, evR, oneOf, top, ↓reduceIte, Nat.reduceEqDiff, Nat.reduceLeDiff, Nat.reduceAdd, Nat.reduceSub, Nat.reduceMul, reduceCtorEq, Int.reduceEq, Int.reduceLT, Int.reduceLE, Int.reduceNeg, Int.reduceAdd, Int.reduceSub]
  refine callK_pure (hasPrefix0_pure _ p h) ?_
  simp +contextual only [hb, f0, f1, ↓wA, wB, wZ, repeatV, RX.evs, spl, over, ones, Ex.ends, evR, oneOf, top, ↓reduceIte, Nat.reduceEqDiff, Nat.reduceLeDiff, Nat.reduceAdd, Nat.reduceSub, Nat.reduceMul, reduceCtorEq, Int.reduceEq, Int.reduceLT, Int.reduceLE, Int.reduceNeg, Int.reduceAdd, Int.reduceSub]

end Go.Proofs.YthcgccnbhdociaaDoor

namespace Go.Proofs.YthcgccnbhdociaaDoor
open Go Am
set_option linter.unusedSectionVars false
set_option linter.unusedSimpArgs false
set_option linter.unusedVariables false

/-- how many bytes of a rest a note takes, so many being open; none: it does not end -/
def noteM : List UInt8 → Int → Option Nat
  | [], _ => none
  | [_], _ => none
  | x :: y :: r, d => if x = 40 ∧ y = 42 then (noteM r (d + 1)).map (· + 2) else if x = 42 ∧ y = 41 then (if d - 1 = 0 then some 2 else (noteM r (d - 1)).map (· + 2)) else (noteM (y :: r) d).map (· + 1)

theorem noteM_step (r : List UInt8) (d : Int) (h : r ≠ []) : noteM r d = if ([40, 42] : List UInt8).isPrefixOf r = true then (noteM (r.drop 2) (d + 1)).map (· + 2) else
    if ([42, 41] : List UInt8).isPrefixOf r = true then (if d - 1 = 0 then some 2 else (noteM (r.drop 2) (d - 1)).map (· + 2)) else (noteM (r.drop 1) d).map (· + 1) := by
  match r, h with
  | [x], _ => simp [noteM, List.isPrefixOf]
  | x :: y :: r, _ =>
    have e1 : (([40, 42] : List UInt8).isPrefixOf (x :: y :: r) = true) = (x = 40 ∧ y = 42) := by
      simp only [List.isPrefixOf, Bool.and_true, Bool.and_eq_true, beq_iff_eq]
      exact propext ⟨fun q => ⟨q.1.symm, q.2.symm⟩, fun q => ⟨q.1.symm, q.2.symm⟩⟩
    have e2 : (([42, 41] : List UInt8).isPrefixOf (x :: y :: r) = true) = (x = 42 ∧ y = 41) := by
      simp only [List.isPrefixOf, Bool.and_true, Bool.and_eq_true, beq_iff_eq]
      exact propext ⟨fun q => ⟨q.1.symm, q.2.symm⟩, fun q => ⟨q.1.symm, q.2.symm⟩⟩
    rw [noteM]
    simp only [e1, e2, List.drop_succ_cons, List.drop_zero]

theorem pre2 {a b : UInt8} {r : List UInt8} (h : ([a, b] : List UInt8).isPrefixOf r = true) : 2 ≤ r.length := by
  rw [List.isPrefixOf_iff_prefix] at h
  simpa using h.length_le

/-- a scanner's block -/
noncomputable def scB (s : List UInt8) (at' e : Int) : Blk := .ofL [.str s, .int .i64 at', .int .i64 e] 0 false

theorem note_ctr (s : List UInt8) (a0 : Nat) (e0 : Int) (b : Pa) (h : Heap) (hb : h.get b = scB s a0 e0) (h0 : a0 ≤ s.length) (hs : s.length ≤ 100000) (hob : Old h b) :
    Ctr Tryd.prog 25 [.ptr b 0] h fun x h' => x = .tuple [] ∧ Mod (fun x => x = b) h h' ∧ (match noteM (s.drop a0) 0 with
      | some n => h'.get b = scB s ((a0 + n : Nat) : Int) e0 ∧ a0 + n ≤ s.length
      | none => h'.get b = scB s (s.length : Int) 253) := by
  refine c25_ctr rfl (wpK_of ?_)
  unfold c25
  unfold scB at hb ⊢
  simp +contextual only [hb, ↓wA, wB, wZ, repeatV, RX.evs, spl, over, ones, Ex.ends, evR, oneOf, top, ↓reduceIte, Nat.reduceEqDiff, Nat.reduceLeDiff, Nat.reduceAdd, Nat.reduceSub, Nat.reduceMul, reduceCtorEq, Int.reduceEq, Int.reduceLT, Int.reduceLE, Int.reduceNeg, Int.reduceAdd, Int.reduceSub]
  refine loopK_intro (fun r h' => ∃ (a : Nat) (d : Int), a0 ≤ a ∧ a ≤ s.length ∧ r 0 = .ptr b 0 ∧ r 2 = .int .i64 d ∧ h'.get b = .ofL [.str s, .int .i64 a, .int .i64 e0] 0 false ∧ Mod (fun x => x = b) h h' ∧ -(a : Int) ≤ d ∧ d ≤ a ∧
      noteM (s.drop a0) 0 = (noteM (s.drop a) d).map (· + (a - a0))) (fun r h' => s.length - ((ld1B (h'.get b) 1).getD .bad).toN) ?_ ?_
  · refine ⟨a0, 0, Nat.le_refl _, h0, ?_⟩
    simp only [↓wA, wB, wZ, repeatV, RX.evs, spl, over, ones, Ex.ends, evR, oneOf, top, ↓reduceIte, Nat.reduceEqDiff, Nat.reduceLeDiff, Nat.reduceAdd, Nat.reduceSub, Nat.reduceMul, reduceCtorEq, Int.reduceEq, Int.reduceLT, Int.reduceLE, Int.reduceNeg, Int.reduceAdd, Int.reduceSub]
    refine ⟨hb, Mod.refl _ _, by omega, by omega, ?_⟩
    rw [Nat.sub_self]
    cases noteM (s.drop a0) 0 <;> rfl
  · rintro r h' ⟨a, d, k0, k1, r0, r2, hg, hm, d0, d1, hok⟩
    unfold c25l1
    by_cases hend : (s.length : Int) ≤ (a : Int)
    · have ha : a = s.length := by omega
      have hn : noteM (s.drop a) d = none := by
        rw [ha, List.drop_length]
        rfl
      rw [hn] at hok
      simp +contextual only [r0, r2, hg, hend, ↓wA, wB, wZ, repeatV, RX.evs, spl, over, ones, Ex.ends, evR, oneOf, top, ↓reduceIte, Nat.reduceEqDiff, Nat.reduceLeDiff, Nat.reduceAdd, Nat.reduceSub, Nat.reduceMul, reduceCtorEq, Int.reduceEq, Int.reduceLT, Int.reduceLE, Int.reduceNeg, Int.reduceAdd, Int.reduceSub]
      rw [hok]
      refine ⟨hm.set (fun _ => rfl) _, ?_⟩
      simp only [ha, Option.map_none, get_set, if_true]
    · have hne : s.drop a ≠ [] := by
        intro q
        rw [List.drop_eq_nil_iff] at q
        omega
      have hpure : ∀ p, CallsV Tryd.prog 24 [.ptr b 0, .str p] h' (.bool (p.isPrefixOf (s.drop a))) h' := fun p => by
        have := has_pure s p (a : Int) [.int .i64 e0] b 0 false h' hg (by omega) (by omega)
        simpa using this
      have hstep := noteM_step (s.drop a) d hne
      simp +contextual only [r0, r2, hg, hend, ↓wA, wB, wZ, repeatV, RX.evs, spl, over, ones, Ex.ends, evR, oneOf, top, ↓reduceIte, Nat.reduceEqDiff, Nat.reduceLeDiff, Nat.reduceAdd, Nat.reduceSub, Nat.reduceMul, reduceCtorEq, Int.reduceEq, Int.reduceLT, Int.reduceLE, Int.reduceNeg, Int.reduceAdd, Int.reduceSub]
      refine callK_pure (hpure _) ?_
      cases hp1 : ([40, 42] : List UInt8).isPrefixOf (s.drop a) with
      | true =>
        have h2 := pre2 hp1
        rw [List.length_drop] at h2
        rw [hp1, if_pos rfl] at hstep
        have w1 : IntKind.i64.wrap (d + 1) = d + 1 := wrap_i64 (by omega) (by omega)
        have w2 : IntKind.i64.wrap ((a : Int) + 2) = ((a + 2 : Nat) : Int) := by rw [wrap_i64 (by omega) (by omega)]; rfl
        simp +contextual only [r0, r2, hg, w1, w2, ↓wA, wB, wZ, repeatV, RX.evs, spl, over, ones, Ex.ends, evR, oneOf, top, ↓reduceIte, Nat.reduceEqDiff, Nat.reduceLeDiff, Nat.reduceAdd, Nat.reduceSub, Nat.reduceMul, reduceCtorEq, Int.reduceEq, Int.reduceLT, Int.reduceLE, Int.reduceNeg, Int.reduceAdd, Int.reduceSub]
        refine ⟨⟨a + 2, d + 1, by omega, by omega, rfl, rfl, hm.set (fun _ => rfl) _, by omega, by omega, ?_⟩, by omega⟩
        rw [hok, hstep, List.drop_drop, Option.map_map]
        congr 1
        funext q
        simp only [Function.comp]
        omega
      | false =>
        rw [hp1, if_neg (by decide)] at hstep
        simp +contextual only [r0, r2, hg, ↓wA, wB, wZ, repeatV, RX.evs, spl, over, ones, Ex.ends, evR, oneOf, top, ↓reduceIte, Nat.reduceEqDiff, Nat.reduceLeDiff, Nat.reduceAdd, Nat.reduceSub, Nat.reduceMul, reduceCtorEq, Int.reduceEq, Int.reduceLT, Int.reduceLE, Int.reduceNeg, Int.reduceAdd, Int.reduceSub]
        refine callK_pure (hpure _) ?_
        cases hp2 : ([42, 41] : List UInt8).isPrefixOf (s.drop a) with
        | true =>
          have h2 := pre2 hp2
          rw [List.length_drop] at h2
          rw [hp2, if_pos rfl] at hstep
          have w1 : IntKind.i64.wrap (d - 1) = d - 1 := wrap_i64 (by omega) (by omega)
          have w2 : IntKind.i64.wrap ((a : Int) + 2) = ((a + 2 : Nat) : Int) := by rw [wrap_i64 (by omega) (by omega)]; rfl
          by_cases hd : d - 1 = 0
          · rw [if_pos hd] at hstep
            obtain rfl : d = 1 := by omega
            have w0 : IntKind.i64.wrap 0 = 0 := rfl
            simp +contextual only [r0, r2, hg, w0, w2, ↓wA, wB, wZ, repeatV, RX.evs, spl, over, ones, Ex.ends, evR, oneOf, top, ↓reduceIte, Nat.reduceEqDiff, Nat.reduceLeDiff, Nat.reduceAdd, Nat.reduceSub, Nat.reduceMul, reduceCtorEq, Int.reduceEq, Int.reduceLT, Int.reduceLE, Int.reduceNeg, Int.reduceAdd, Int.reduceSub]
            rw [hok, hstep]
            refine ⟨hm.set (fun _ => rfl) _, ?_⟩
            simp only [Option.map_some, get_set, if_true]
            refine ⟨?_, by omega⟩
            rw [show a0 + (2 + (a - a0)) = a + 2 from by omega]
          · rw [if_neg hd] at hstep
            simp +contextual only [r0, r2, hg, w1, w2, hd, ↓wA, wB, wZ, repeatV, RX.evs, spl, over, ones, Ex.ends, evR, oneOf, top, ↓reduceIte, Nat.reduceEqDiff, Nat.reduceLeDiff, Nat.reduceAdd, Nat.reduceSub, Nat.reduceMul, reduceCtorEq, Int.reduceEq, Int.reduceLT, Int.reduceLE, Int.reduceNeg, Int.reduceAdd, Int.reduceSub]
            refine ⟨⟨a + 2, d - 1, by omega, by omega, rfl, rfl, hm.set (fun _ => rfl) _, by omega, by omega, ?_⟩, by omega⟩
            rw [hok, hstep, List.drop_drop, Option.map_map]
            congr 1
            funext q
            simp only [Function.comp]
            omega
        | false =>
          rw [hp2, if_neg (by decide)] at hstep
          have w2 : IntKind.i64.wrap ((a : Int) + 1) = ((a + 1 : Nat) : Int) := by rw [wrap_i64 (by omega) (by omega)]; rfl
          simp +contextual only [r0, r2, hg, w2, ↓wA, wB, wZ, repeatV, RX.evs, spl, over, ones, Ex.ends, evR, oneOf, top, ↓reduceIte, Nat.reduceEqDiff, Nat.reduceLeDiff, Nat.reduceAdd, Nat.reduceSub, Nat.reduceMul, reduceCtorEq, Int.reduceEq, Int.reduceLT, Int.reduceLE, Int.reduceNeg, Int.reduceAdd, Int.reduceSub]
          refine ⟨⟨a + 1, d, by omega, by omega, rfl, rfl, hm.set (fun _ => rfl) _, by omega, by omega, ?_⟩, by omega⟩
          rw [hok, hstep, List.drop_drop, Option.map_map]
          congr 1
          funext q
          simp only [Function.comp]
          omega
end Go.Proofs.YthcgccnbhdociaaDoor

namespace Go.Proofs.YthcgccnbhdociaaDoor
open Go Am
set_option linter.unusedSectionVars false
set_option linter.unusedSimpArgs false
set_option linter.unusedVariables false

/-- a reader's block -/
noncomputable def rdB (s : List UInt8) (at' fr e : Int) (out : V) : Blk := .ofL [.str s, .int .i64 at', .int .i64 fr, .int .i64 e, out] 0 false

end Go.Proofs.YthcgccnbhdociaaDoor

namespace Go.Proofs.YthcgccnbhdociaaDoor
open Go Am
set_option linter.unusedSectionVars false
set_option linter.unusedSimpArgs false
set_option linter.unusedVariables false

theorem drop_cons {s : List UInt8} {a : Nat} (h : a < s.length) : s.drop a = s[a] :: s.drop (a + 1) := List.drop_eq_getElem_cons h
theorem take_while_len (p : UInt8 → Bool) : ∀ l : List UInt8, (l.takeWhile p).length ≤ l.length
  | [] => by simp
  | x :: l => by
    simp only [List.takeWhile_cons]
    split
    · simpa using take_while_len p l
    · simp

theorem run_ctr (s : List UInt8) (a0 : Nat) (e0 : Int) (b : Pa) (g : FuncId) (p : Int → Bool) (h : Heap) (hb : h.get b = scB s a0 e0) (h0 : a0 ≤ s.length) (hs : s.length ≤ 100000)
    (hp : ∀ c h, CallsV Tryd.prog g [.int .u8 c] h (.bool (p c)) h) :
    Ctr Tryd.prog 75 [.ptr b 0, .func g []] h fun x h' => x = .str ((s.drop a0).takeWhile fun c => p c.toNat) ∧ Mod (fun x => x = b) h h' ∧ h'.get b = scB s ((a0 + ((s.drop a0).takeWhile fun c => p c.toNat).length : Nat) : Int) e0 := by
  refine c75_ctr rfl (wpK_of ?_)
  unfold c75
  unfold scB at hb ⊢
  simp +contextual only [hb, ↓wA, wB, wZ, repeatV, RX.evs, spl, over, ones, Ex.ends, evR, oneOf, top, ↓reduceIte, Nat.reduceEqDiff, Nat.reduceLeDiff, Nat.reduceAdd, Nat.reduceSub, Nat.reduceMul, reduceCtorEq, Int.reduceEq, Int.reduceLT, Int.reduceLE, Int.reduceNeg, Int.reduceAdd, Int.reduceSub]
  refine loopK_intro (fun r h' => ∃ (a : Nat), a0 ≤ a ∧ a ≤ s.length ∧ r 0 = .ptr b 0 ∧ r 1 = .func g [] ∧ r 5 = .int .i64 a0 ∧ h'.get b = .ofL [.str s, .int .i64 a, .int .i64 e0] 0 false ∧ Mod (fun x => x = b) h h' ∧
      ((s.drop a0).takeWhile fun c => p c.toNat) = (s.drop a0).take (a - a0) ++ ((s.drop a).takeWhile fun c => p c.toNat)) (fun r h' => s.length - ((ld1B (h'.get b) 1).getD .bad).toN) ?_ ?_
  · refine ⟨a0, Nat.le_refl _, h0, ?_⟩
    simp only [↓wA, wB, wZ, repeatV, RX.evs, spl, over, ones, Ex.ends, evR, oneOf, top, ↓reduceIte, Nat.reduceEqDiff, Nat.reduceLeDiff, Nat.reduceAdd, Nat.reduceSub, Nat.reduceMul, reduceCtorEq, Int.reduceEq, Int.reduceLT, Int.reduceLE, Int.reduceNeg, Int.reduceAdd, Int.reduceSub]
    refine ⟨hb, Mod.refl _ _, ?_⟩
    rw [Nat.sub_self]
    rfl
  · rintro r h' ⟨a, k0, k1, r0, r1, r5, hg, hm, hok⟩
    unfold c75l1
    have fin : ((s.drop a).takeWhile fun c => p c.toNat) = [] → V.str (((s.drop a0).take (a - a0))) = V.str ((s.drop a0).takeWhile fun c => p c.toNat) ∧ Mod (fun x => x = b) h h' ∧ Blk.ofL [V.str s, V.int .i64 a, V.int .i64 e0] 0 false = Blk.ofL [V.str s, V.int .i64 ((a0 + ((s.drop a0).takeWhile fun c => p c.toNat).length : Nat) : Int), V.int .i64 e0] 0 false := by
      intro q
      rw [q, List.append_nil] at hok
      rw [hok, List.length_take, List.length_drop]
      refine ⟨rfl, hm, ?_⟩
      rw [show a0 + min (a - a0) (s.length - a0) = a from by omega]
    have f0 : (0 ≤ (a0 : Int)) = True := eq_true (by omega)
    have f1 : ((a0 : Int) ≤ (a : Int)) = True := eq_true (by omega)
    have f2 : ((a : Int) ≤ (s.length : Int)) = True := eq_true (by omega)
    have f3 : (0 ≤ (a : Int)) = True := eq_true (by omega)
    by_cases hend : (a : Int) < (s.length : Int)
    · have hlt : a < s.length := by omega
      rw [drop_cons hlt, List.takeWhile_cons] at hok fin
      simp +contextual only [r0, r1, r5, hg, hend, f0, f1, f2, f3, List.getElem?_eq_getElem hlt, Int.toNat_natCast, ↓wA, wB, wZ, repeatV, RX.evs, spl, over, ones, Ex.ends, evR, oneOf, top, ↓reduceIte, Nat.reduceEqDiff, Nat.reduceLeDiff, Nat.reduceAdd, Nat.reduceSub, Nat.reduceMul, reduceCtorEq, Int.reduceEq, Int.reduceLT, Int.reduceLE, Int.reduceNeg, Int.reduceAdd, Int.reduceSub]
      refine callK_pure (hp _ _) ?_
      cases hpc : p ((s[a]).toNat : Int) with
      | true =>
        rw [hpc] at hok
        have w2 : IntKind.i64.wrap ((a : Int) + 1) = ((a + 1 : Nat) : Int) := by rw [wrap_i64 (by omega) (by omega)]; rfl
        simp +contextual only [hpc, r0, r1, r5, hg, hend, f0, f1, f2, f3, w2, List.getElem?_eq_getElem hlt, Int.toNat_natCast, ↓wA, wB, wZ, repeatV, RX.evs, spl, over, ones, Ex.ends, evR, oneOf, top, ↓reduceIte, Nat.reduceEqDiff, Nat.reduceLeDiff, Nat.reduceAdd, Nat.reduceSub, Nat.reduceMul, reduceCtorEq, Int.reduceEq, Int.reduceLT, Int.reduceLE, Int.reduceNeg, Int.reduceAdd, Int.reduceSub]
        refine ⟨⟨a + 1, by omega, by omega, rfl, hm.set (fun _ => rfl) _, ?_⟩, by omega⟩
        rw [hok, if_pos rfl]
        have hlt2 : a - a0 < (s.drop a0).length := by rw [List.length_drop]; omega
        rw [show a + 1 - a0 = a - a0 + 1 from by omega, ← List.take_append_getElem hlt2, List.append_assoc]
        congr 1
        rw [List.getElem_drop]
        simp only [show a0 + (a - a0) = a from by omega]
        rfl
      | false =>
        rw [hpc] at fin
        simp +contextual only [hpc, r0, r1, r5, hg, hend, f0, f1, f2, f3, List.getElem?_eq_getElem hlt, Int.toNat_natCast, ↓wA, wB, wZ, repeatV, RX.evs, spl, over, ones, Ex.ends, evR, oneOf, top, ↓reduceIte, Nat.reduceEqDiff, Nat.reduceLeDiff, Nat.reduceAdd, Nat.reduceSub, Nat.reduceMul, reduceCtorEq, Int.reduceEq, Int.reduceLT, Int.reduceLE, Int.reduceNeg, Int.reduceAdd, Int.reduceSub]
        exact fin rfl
    · have ha : a = s.length := by omega
      simp +contextual only [r0, r1, r5, hg, hend, f0, f1, f2, f3, Int.toNat_natCast, ↓wA, wB, wZ, repeatV, RX.evs, spl, over, ones, Ex.ends, evR, oneOf, top, ↓reduceIte, Nat.reduceEqDiff, Nat.reduceLeDiff, Nat.reduceAdd, Nat.reduceSub, Nat.reduceMul, reduceCtorEq, Int.reduceEq, Int.reduceLT, Int.reduceLE, Int.reduceNeg, Int.reduceAdd, Int.reduceSub]
      refine fin ?_
      rw [ha, List.drop_length]
      rfl
end Go.Proofs.YthcgccnbhdociaaDoor

namespace Go.Proofs.YthcgccnbhdociaaDoor
open Go Am
set_option linter.unusedSectionVars false
set_option linter.unusedSimpArgs false
set_option linter.unusedVariables false

theorem findNext72 : Extern.findNext Tryd.f72 = none := by kernel_rfl
theorem find72 : (Extern.find Tryd.f72) = some Extern.BytealgIndexByte.indexByte := by kernel_rfl
theorem index72 (s : List UInt8) (c : Int) (h : Heap) : CallsV Tryd.prog 72 [.str s, .int .u8 c] h (.int .i64 (Lib.indexByte s c.toNat.toUInt8)) h :=
  indexByteString_calls Tryd.func72 (by kernel_rfl) (by kernel_rfl) findNext72 find72 s c h
theorem index42 (s : List UInt8) (c : Int) (h : Heap) : CallsV Tryd.prog 42 [.str s, .int .u8 c] h (.int .i64 (Lib.indexByte s c.toNat.toUInt8)) h := by
  refine pure_calls (c42_ctr rfl (wpK_of ?_))
  unfold c42
  simp +contextual only [↓wA, wB, wZ, repeatV, RX.evs, spl, over, ones, Ex.ends, evR, oneOf, top, ↓reduceIte, Nat.reduceEqDiff, Nat.reduceLeDiff, Nat.reduceAdd, Nat.reduceSub, Nat.reduceMul, reduceCtorEq, Int.reduceEq, Int.reduceLT, Int.reduceLE, Int.reduceNeg, Int.reduceAdd, Int.reduceSub]
  refine callK_pure (index72 _ _ _) ?_
  simp +contextual only [↓wA, wB, wZ, repeatV, RX.evs, spl, over, ones, Ex.ends, evR, oneOf, top, ↓reduceIte, Nat.reduceEqDiff, Nat.reduceLeDiff, Nat.reduceAdd, Nat.reduceSub, Nat.reduceMul, reduceCtorEq, Int.reduceEq, Int.reduceLT, Int.reduceLE, Int.reduceNeg, Int.reduceAdd, Int.reduceSub]
theorem index23 (s : List UInt8) (c : Int) (h : Heap) : CallsV Tryd.prog 23 [.str s, .int .u8 c] h (.int .i64 (Lib.indexByte s c.toNat.toUInt8)) h := by
  refine pure_calls (c23_ctr rfl (wpK_of ?_))
  unfold c23
  simp +contextual only [↓wA, wB, wZ, repeatV, RX.evs, spl, over, ones, Ex.ends, evR, oneOf, top, ↓reduceIte, Nat.reduceEqDiff, Nat.reduceLeDiff, Nat.reduceAdd, Nat.reduceSub, Nat.reduceMul, reduceCtorEq, Int.reduceEq, Int.reduceLT, Int.reduceLE, Int.reduceNeg, Int.reduceAdd, Int.reduceSub]
  refine callK_pure (index42 _ _ _) ?_
  simp +contextual only [↓wA, wB, wZ, repeatV, RX.evs, spl, over, ones, Ex.ends, evR, oneOf, top, ↓reduceIte, Nat.reduceEqDiff, Nat.reduceLeDiff, Nat.reduceAdd, Nat.reduceSub, Nat.reduceMul, reduceCtorEq, Int.reduceEq, Int.reduceLT, Int.reduceLE, Int.reduceNeg, Int.reduceAdd, Int.reduceSub]
end Go.Proofs.YthcgccnbhdociaaDoor

namespace Go.Proofs.YthcgccnbhdociaaDoor
open Go Go.Shelf
def Tryd.lays197_ren : Go.Shelf.Ren := ⟨fun | 197 => 34 | 260 => 60 | n => n, fun | 9 => 9 | 21 => 21 | 3 => 3 | 4 => 4 | 5 => 5 | 105 => 55 | 119 => 89 | 0 => 0 | 46 => 90 | 139 => 93 | 138 => 92 | n => n, fun | 3 => 0 | 4 => 1 | n => n⟩
theorem Tryd.lays197 : Go.Proofs.Lays.n197 Tryd.prog Tryd.lays197_ren := {
  mixed := by kernel_rfl,
  f197 := Tryd.func34.trans (congrArg some (by kernel_rfl)),
  f260 := Tryd.func60.trans (congrArg some (by kernel_rfl)),
  t0 := Tryd.underlying0,
  a0 := Tryd.isAgg0,
  z0 := Tryd.sizeOf0,
  v0 := Tryd.zeroValue0,
  t3 := Tryd.underlying3,
  a3 := Tryd.isAgg3,
  z3 := Tryd.sizeOf3,
  v3 := Tryd.zeroValue3,
  t4 := Tryd.underlying4,
  a4 := Tryd.isAgg4,
  z4 := Tryd.sizeOf4,
  v4 := Tryd.zeroValue4,
  t5 := Tryd.underlying5,
  a5 := Tryd.isAgg5,
  z5 := Tryd.sizeOf5,
  v5 := Tryd.zeroValue5,
  t9 := Tryd.underlying9,
  a9 := Tryd.isAgg9,
  z9 := Tryd.sizeOf9,
  v9 := Tryd.zeroValue9,
  t21 := Tryd.underlying21,
  a21 := Tryd.isAgg21,
  z21 := Tryd.sizeOf21,
  v21 := Tryd.zeroValue21,
  t46 := Tryd.underlying90,
  a46 := Tryd.isAgg90,
  z46 := Tryd.sizeOf90,
  v46 := Tryd.zeroValue90,
  t105 := Tryd.underlying55,
  a105 := Tryd.isAgg55,
  z105 := Tryd.sizeOf55,
  v105 := Tryd.zeroValue55,
  t119 := Tryd.underlying89,
  a119 := Tryd.isAgg89,
  z119 := Tryd.sizeOf89,
  t138 := Tryd.underlying92,
  a138 := Tryd.isAgg92,
  z138 := Tryd.sizeOf92,
  v138 := Tryd.zeroValue92,
  t139 := Tryd.underlying93,
  a139 := Tryd.isAgg93,
  z139 := Tryd.sizeOf93,
  v139 := Tryd.zeroValue93,
  g3 := by kernel_rfl,
  g4 := by kernel_rfl }
def Tryd.lays144_ren : Go.Shelf.Ren := ⟨fun | 144 => 63 | 143 => 80 | 219 => 89 | 217 => 42 | 225 => 103 | 224 => 104 | 267 => 105 | 266 => 72 | 314 => 114 | n => n, fun | 9 => 9 | 4 => 4 | 3 => 3 | 5 => 5 | 46 => 90 | 146 => 125 | 51 => 116 | n => n, fun | 1 => 2 | n => n⟩
theorem Tryd.lays144 : Go.Proofs.Lays.n144 Tryd.prog Tryd.lays144_ren := {
  mixed := by kernel_rfl,
  f143 := Tryd.func80.trans (congrArg some (by kernel_rfl)),
  f144 := Tryd.func63.trans (congrArg some (by kernel_rfl)),
  f217 := Tryd.func42.trans (congrArg some (by kernel_rfl)),
  f219 := Tryd.func89.trans (congrArg some (by kernel_rfl)),
  f224 := Tryd.func104.trans (congrArg some (by kernel_rfl)),
  f225 := Tryd.func103.trans (congrArg some (by kernel_rfl)),
  f266 := Tryd.func72.trans (congrArg some (by kernel_rfl)),
  f267 := Tryd.func105.trans (congrArg some (by kernel_rfl)),
  f314 := Tryd.func114.trans (congrArg some (by kernel_rfl)),
  t3 := Tryd.underlying3,
  a3 := Tryd.isAgg3,
  z3 := Tryd.sizeOf3,
  v3 := Tryd.zeroValue3,
  t4 := Tryd.underlying4,
  a4 := Tryd.isAgg4,
  z4 := Tryd.sizeOf4,
  v4 := Tryd.zeroValue4,
  t5 := Tryd.underlying5,
  a5 := Tryd.isAgg5,
  z5 := Tryd.sizeOf5,
  v5 := Tryd.zeroValue5,
  t9 := Tryd.underlying9,
  a9 := Tryd.isAgg9,
  z9 := Tryd.sizeOf9,
  v9 := Tryd.zeroValue9,
  t46 := Tryd.underlying90,
  a46 := Tryd.isAgg90,
  z46 := Tryd.sizeOf90,
  v46 := Tryd.zeroValue90,
  t51 := Tryd.underlying116,
  a51 := Tryd.isAgg116,
  z51 := Tryd.sizeOf116,
  v51 := Tryd.zeroValue116,
  t146 := Tryd.underlying125,
  a146 := Tryd.isAgg125,
  z146 := Tryd.sizeOf125,
  v146 := Tryd.zeroValue125,
  g1 := by kernel_rfl }
def Tryd.lays172_ren : Go.Shelf.Ren := ⟨fun | 172 => 87 | 244 => 102 | 245 => 86 | 247 => 113 | 279 => 98 | 280 => 99 | 281 => 100 | 282 => 101 | 287 => 85 | 316 => 111 | 171 => 37 | 205 => 112 | 321 => 96 | 322 => 97 | 243 => 65 | 246 => 82 | 283 => 90 | 284 => 91 | 285 => 92 | 286 => 93 | 129 => 107 | 317 => 106 | 318 => 108 | 319 => 109 | 320 => 110 | 337 => 115 | 338 => 116 | n => n, fun | 9 => 9 | 3 => 3 | 75 => 81 | 76 => 82 | 4 => 4 | 5 => 5 | 167 => 109 | 37 => 43 | 0 => 0 | 85 => 123 | 2 => 2 | 168 => 111 | 53 => 85 | 175 => 86 | 46 => 90 | 210 => 121 | 127 => 98 | 145 => 130 | 143 => 128 | 21 => 21 | 171 => 101 | 173 => 104 | 212 => 115 | 51 => 116 | 20 => 20 | 213 => 117 | 232 => 131 | 233 => 132 | 80 => 84 | n => n, fun | 15 => 4 | 16 => 5 | 17 => 3 | 18 => 6 | 19 => 7 | n => n⟩
theorem Tryd.lays172 : Go.Proofs.Lays.n172 Tryd.prog Tryd.lays172_ren := {
  mixed := by kernel_rfl,
  f129 := Tryd.func107.trans (congrArg some (by kernel_rfl)),
  f171 := Tryd.func37.trans (congrArg some (by kernel_rfl)),
  f172 := Tryd.func87.trans (congrArg some (by kernel_rfl)),
  f205 := Tryd.func112.trans (congrArg some (by kernel_rfl)),
  f243 := Tryd.func65.trans (congrArg some (by kernel_rfl)),
  f244 := Tryd.func102.trans (congrArg some (by kernel_rfl)),
  f245 := Tryd.func86.trans (congrArg some (by kernel_rfl)),
  f246 := Tryd.func82.trans (congrArg some (by kernel_rfl)),
  f247 := Tryd.func113.trans (congrArg some (by kernel_rfl)),
  f279 := Tryd.func98.trans (congrArg some (by kernel_rfl)),
  f280 := Tryd.func99.trans (congrArg some (by kernel_rfl)),
  f281 := Tryd.func100.trans (congrArg some (by kernel_rfl)),
  f282 := Tryd.func101.trans (congrArg some (by kernel_rfl)),
  f283 := Tryd.func90.trans (congrArg some (by kernel_rfl)),
  f284 := Tryd.func91.trans (congrArg some (by kernel_rfl)),
  f285 := Tryd.func92.trans (congrArg some (by kernel_rfl)),
  f286 := Tryd.func93.trans (congrArg some (by kernel_rfl)),
  f287 := Tryd.func85.trans (congrArg some (by kernel_rfl)),
  f316 := Tryd.func111.trans (congrArg some (by kernel_rfl)),
  f317 := Tryd.func106.trans (congrArg some (by kernel_rfl)),
  f318 := Tryd.func108.trans (congrArg some (by kernel_rfl)),
  f319 := Tryd.func109.trans (congrArg some (by kernel_rfl)),
  f320 := Tryd.func110.trans (congrArg some (by kernel_rfl)),
  f321 := Tryd.func96.trans (congrArg some (by kernel_rfl)),
  f322 := Tryd.func97.trans (congrArg some (by kernel_rfl)),
  f337 := Tryd.func115.trans (congrArg some (by kernel_rfl)),
  f338 := Tryd.func116.trans (congrArg some (by kernel_rfl)),
  t0 := Tryd.underlying0,
  a0 := Tryd.isAgg0,
  z0 := Tryd.sizeOf0,
  v0 := Tryd.zeroValue0,
  t2 := Tryd.underlying2,
  a2 := Tryd.isAgg2,
  z2 := Tryd.sizeOf2,
  v2 := Tryd.zeroValue2,
  t3 := Tryd.underlying3,
  a3 := Tryd.isAgg3,
  z3 := Tryd.sizeOf3,
  v3 := Tryd.zeroValue3,
  t4 := Tryd.underlying4,
  a4 := Tryd.isAgg4,
  z4 := Tryd.sizeOf4,
  v4 := Tryd.zeroValue4,
  t5 := Tryd.underlying5,
  a5 := Tryd.isAgg5,
  z5 := Tryd.sizeOf5,
  v5 := Tryd.zeroValue5,
  t9 := Tryd.underlying9,
  a9 := Tryd.isAgg9,
  z9 := Tryd.sizeOf9,
  v9 := Tryd.zeroValue9,
  t20 := Tryd.underlying20,
  a20 := Tryd.isAgg20,
  z20 := Tryd.sizeOf20,
  v20 := Tryd.zeroValue20,
  t21 := Tryd.underlying21,
  a21 := Tryd.isAgg21,
  z21 := Tryd.sizeOf21,
  v21 := Tryd.zeroValue21,
  t37 := Tryd.underlying43,
  a37 := Tryd.isAgg43,
  z37 := Tryd.sizeOf43,
  v37 := Tryd.zeroValue43,
  t46 := Tryd.underlying90,
  a46 := Tryd.isAgg90,
  z46 := Tryd.sizeOf90,
  v46 := Tryd.zeroValue90,
  t51 := Tryd.underlying116,
  a51 := Tryd.isAgg116,
  z51 := Tryd.sizeOf116,
  v51 := Tryd.zeroValue116,
  t53 := Tryd.underlying85,
  a53 := Tryd.isAgg85,
  z53 := Tryd.sizeOf85,
  v53 := Tryd.zeroValue85,
  t75 := Tryd.underlying81,
  a75 := Tryd.isAgg81,
  z75 := Tryd.sizeOf81,
  v75 := Tryd.zeroValue81,
  t76 := Tryd.underlying82,
  a76 := Tryd.isAgg82,
  z76 := Tryd.sizeOf82,
  v76 := Tryd.zeroValue82,
  t85 := Tryd.underlying123,
  a85 := Tryd.isAgg123,
  z85 := Tryd.sizeOf123,
  v85 := Tryd.zeroValue123,
  t127 := Tryd.underlying98,
  a127 := Tryd.isAgg98,
  z127 := Tryd.sizeOf98,
  v127 := Tryd.zeroValue98,
  t143 := Tryd.underlying128,
  a143 := Tryd.isAgg128,
  z143 := Tryd.sizeOf128,
  v143 := Tryd.zeroValue128,
  t145 := Tryd.underlying130,
  a145 := Tryd.isAgg130,
  z145 := Tryd.sizeOf130,
  v145 := Tryd.zeroValue130,
  t167 := Tryd.underlying109,
  a167 := Tryd.isAgg109,
  z167 := Tryd.sizeOf109,
  v167 := Tryd.zeroValue109,
  t168 := Tryd.underlying111,
  a168 := Tryd.isAgg111,
  z168 := Tryd.sizeOf111,
  v168 := Tryd.zeroValue111,
  t171 := Tryd.underlying101,
  a171 := Tryd.isAgg101,
  z171 := Tryd.sizeOf101,
  v171 := Tryd.zeroValue101,
  t173 := Tryd.underlying104,
  a173 := Tryd.isAgg104,
  z173 := Tryd.sizeOf104,
  v173 := Tryd.zeroValue104,
  t175 := Tryd.underlying86,
  a175 := Tryd.isAgg86,
  z175 := Tryd.sizeOf86,
  v175 := Tryd.zeroValue86,
  t210 := Tryd.underlying121,
  a210 := Tryd.isAgg121,
  z210 := Tryd.sizeOf121,
  v210 := Tryd.zeroValue121,
  t212 := Tryd.underlying115,
  a212 := Tryd.isAgg115,
  z212 := Tryd.sizeOf115,
  v212 := Tryd.zeroValue115,
  t213 := Tryd.underlying117,
  a213 := Tryd.isAgg117,
  z213 := Tryd.sizeOf117,
  t232 := Tryd.underlying131,
  a232 := Tryd.isAgg131,
  z232 := Tryd.sizeOf131,
  v232 := Tryd.zeroValue131,
  t233 := Tryd.underlying132,
  a233 := Tryd.isAgg132,
  z233 := Tryd.sizeOf132,
  v233 := Tryd.zeroValue132,
  g15 := by kernel_rfl,
  g16 := by kernel_rfl,
  g17 := by kernel_rfl,
  g18 := by kernel_rfl,
  g19 := by kernel_rfl }
def Tryd.lays171_ren : Go.Shelf.Ren := ⟨fun | 171 => 37 | 243 => 65 | 246 => 82 | 283 => 90 | 284 => 91 | 285 => 92 | 286 => 93 | 129 => 107 | 317 => 106 | 318 => 108 | 319 => 109 | 320 => 110 | 337 => 115 | 338 => 116 | n => n, fun | 3 => 3 | 9 => 9 | 2 => 2 | 4 => 4 | 171 => 101 | 0 => 0 | 53 => 85 | 37 => 43 | 5 => 5 | 173 => 104 | 212 => 115 | 51 => 116 | 20 => 20 | 213 => 117 | 46 => 90 | 232 => 131 | 233 => 132 | n => n, fun | 17 => 3 | 18 => 6 | 19 => 7 | n => n⟩
theorem Tryd.lays171 : Go.Proofs.LaysM.n171 Tryd.prog Tryd.lays171_ren := {
  mixed := by kernel_rfl,
  f129 := Tryd.func107.trans (congrArg some (by kernel_rfl)),
  f171 := Tryd.func37.trans (congrArg some (by kernel_rfl)),
  f243 := Tryd.func65.trans (congrArg some (by kernel_rfl)),
  f246 := Tryd.func82.trans (congrArg some (by kernel_rfl)),
  f283 := Tryd.func90.trans (congrArg some (by kernel_rfl)),
  f284 := Tryd.func91.trans (congrArg some (by kernel_rfl)),
  f285 := Tryd.func92.trans (congrArg some (by kernel_rfl)),
  f286 := Tryd.func93.trans (congrArg some (by kernel_rfl)),
  f317 := Tryd.func106.trans (congrArg some (by kernel_rfl)),
  f318 := Tryd.func108.trans (congrArg some (by kernel_rfl)),
  f319 := Tryd.func109.trans (congrArg some (by kernel_rfl)),
  f320 := Tryd.func110.trans (congrArg some (by kernel_rfl)),
  f337 := Tryd.func115.trans (congrArg some (by kernel_rfl)),
  f338 := Tryd.func116.trans (congrArg some (by kernel_rfl)),
  t0 := Tryd.underlying0,
  a0 := Tryd.isAgg0,
  z0 := Tryd.sizeOf0,
  v0 := Tryd.zeroValue0,
  t2 := Tryd.underlying2,
  a2 := Tryd.isAgg2,
  z2 := Tryd.sizeOf2,
  v2 := Tryd.zeroValue2,
  t3 := Tryd.underlying3,
  a3 := Tryd.isAgg3,
  z3 := Tryd.sizeOf3,
  v3 := Tryd.zeroValue3,
  t4 := Tryd.underlying4,
  a4 := Tryd.isAgg4,
  z4 := Tryd.sizeOf4,
  v4 := Tryd.zeroValue4,
  t5 := Tryd.underlying5,
  a5 := Tryd.isAgg5,
  z5 := Tryd.sizeOf5,
  v5 := Tryd.zeroValue5,
  t9 := Tryd.underlying9,
  a9 := Tryd.isAgg9,
  z9 := Tryd.sizeOf9,
  v9 := Tryd.zeroValue9,
  t20 := Tryd.underlying20,
  a20 := Tryd.isAgg20,
  z20 := Tryd.sizeOf20,
  v20 := Tryd.zeroValue20,
  t37 := Tryd.underlying43,
  a37 := Tryd.isAgg43,
  z37 := Tryd.sizeOf43,
  v37 := Tryd.zeroValue43,
  t46 := Tryd.underlying90,
  a46 := Tryd.isAgg90,
  z46 := Tryd.sizeOf90,
  v46 := Tryd.zeroValue90,
  t51 := Tryd.underlying116,
  a51 := Tryd.isAgg116,
  z51 := Tryd.sizeOf116,
  v51 := Tryd.zeroValue116,
  t53 := Tryd.underlying85,
  a53 := Tryd.isAgg85,
  z53 := Tryd.sizeOf85,
  v53 := Tryd.zeroValue85,
  t171 := Tryd.underlying101,
  a171 := Tryd.isAgg101,
  z171 := Tryd.sizeOf101,
  v171 := Tryd.zeroValue101,
  t173 := Tryd.underlying104,
  a173 := Tryd.isAgg104,
  z173 := Tryd.sizeOf104,
  v173 := Tryd.zeroValue104,
  t212 := Tryd.underlying115,
  a212 := Tryd.isAgg115,
  z212 := Tryd.sizeOf115,
  v212 := Tryd.zeroValue115,
  t213 := Tryd.underlying117,
  a213 := Tryd.isAgg117,
  z213 := Tryd.sizeOf117,
  t232 := Tryd.underlying131,
  a232 := Tryd.isAgg131,
  z232 := Tryd.sizeOf131,
  v232 := Tryd.zeroValue131,
  t233 := Tryd.underlying132,
  a233 := Tryd.isAgg132,
  z233 := Tryd.sizeOf132,
  v233 := Tryd.zeroValue132,
  g17 := by kernel_rfl,
  g18 := by kernel_rfl,
  g19 := by kernel_rfl,
  i0 := by kernel_rfl,
  i2 := by kernel_rfl,
  i3 := by kernel_rfl,
  i4 := by kernel_rfl,
  i5 := by kernel_rfl,
  i9 := by kernel_rfl,
  i20 := by kernel_rfl,
  i37 := by kernel_rfl,
  i46 := by kernel_rfl,
  i51 := by kernel_rfl,
  i53 := by kernel_rfl,
  i171 := by kernel_rfl,
  i173 := by kernel_rfl,
  i212 := by kernel_rfl,
  i232 := by kernel_rfl,
  i233 := by kernel_rfl,
  m17 := by kernel_rfl,
  m18 := by kernel_rfl,
  m19 := by kernel_rfl }
def Tryd.laysPu14_ren : Go.Shelf.Ren := ⟨fun | 14 => 74 | 16 => 85 | 17 => 86 | 19 => 96 | 20 => 97 | 21 => 98 | 22 => 99 | 23 => 100 | 24 => 101 | 25 => 111 | 27 => 37 | 26 => 112 | 28 => 65 | 29 => 82 | 30 => 90 | 31 => 91 | 32 => 92 | 33 => 93 | 35 => 107 | 34 => 106 | 36 => 108 | 37 => 109 | 38 => 110 | 39 => 115 | 40 => 116 | n => n, fun | 9 => 9 | 3 => 3 | 22 => 85 | 24 => 81 | 25 => 86 | 4 => 4 | 34 => 109 | 5 => 5 | 36 => 90 | 37 => 43 | 0 => 0 | 39 => 111 | 21 => 21 | 44 => 121 | 47 => 98 | 50 => 130 | 48 => 128 | 2 => 2 | 52 => 101 | 55 => 104 | 59 => 115 | 60 => 116 | 20 => 20 | 61 => 117 | 65 => 131 | 66 => 132 | 67 => 84 | n => n, fun | 0 => 4 | 1 => 5 | 2 => 3 | 3 => 6 | 4 => 7 | n => n⟩
theorem Tryd.laysPu14 : Go.Proofs.LaysPu.n14 Tryd.prog Tryd.laysPu14_ren := {
  mixed := by kernel_rfl,
  f14 := Tryd.func74.trans (congrArg some (by kernel_rfl)),
  f16 := Tryd.func85.trans (congrArg some (by kernel_rfl)),
  f17 := Tryd.func86.trans (congrArg some (by kernel_rfl)),
  f19 := Tryd.func96.trans (congrArg some (by kernel_rfl)),
  f20 := Tryd.func97.trans (congrArg some (by kernel_rfl)),
  f21 := Tryd.func98.trans (congrArg some (by kernel_rfl)),
  f22 := Tryd.func99.trans (congrArg some (by kernel_rfl)),
  f23 := Tryd.func100.trans (congrArg some (by kernel_rfl)),
  f24 := Tryd.func101.trans (congrArg some (by kernel_rfl)),
  f25 := Tryd.func111.trans (congrArg some (by kernel_rfl)),
  f26 := Tryd.func112.trans (congrArg some (by kernel_rfl)),
  f27 := Tryd.func37.trans (congrArg some (by kernel_rfl)),
  f28 := Tryd.func65.trans (congrArg some (by kernel_rfl)),
  f29 := Tryd.func82.trans (congrArg some (by kernel_rfl)),
  f30 := Tryd.func90.trans (congrArg some (by kernel_rfl)),
  f31 := Tryd.func91.trans (congrArg some (by kernel_rfl)),
  f32 := Tryd.func92.trans (congrArg some (by kernel_rfl)),
  f33 := Tryd.func93.trans (congrArg some (by kernel_rfl)),
  f34 := Tryd.func106.trans (congrArg some (by kernel_rfl)),
  f35 := Tryd.func107.trans (congrArg some (by kernel_rfl)),
  f36 := Tryd.func108.trans (congrArg some (by kernel_rfl)),
  f37 := Tryd.func109.trans (congrArg some (by kernel_rfl)),
  f38 := Tryd.func110.trans (congrArg some (by kernel_rfl)),
  f39 := Tryd.func115.trans (congrArg some (by kernel_rfl)),
  f40 := Tryd.func116.trans (congrArg some (by kernel_rfl)),
  t0 := Tryd.underlying0,
  a0 := Tryd.isAgg0,
  z0 := Tryd.sizeOf0,
  v0 := Tryd.zeroValue0,
  i0 := by kernel_rfl,
  t2 := Tryd.underlying2,
  a2 := Tryd.isAgg2,
  z2 := Tryd.sizeOf2,
  v2 := Tryd.zeroValue2,
  i2 := by kernel_rfl,
  t3 := Tryd.underlying3,
  a3 := Tryd.isAgg3,
  z3 := Tryd.sizeOf3,
  v3 := Tryd.zeroValue3,
  i3 := by kernel_rfl,
  t4 := Tryd.underlying4,
  a4 := Tryd.isAgg4,
  z4 := Tryd.sizeOf4,
  v4 := Tryd.zeroValue4,
  i4 := by kernel_rfl,
  t5 := Tryd.underlying5,
  a5 := Tryd.isAgg5,
  z5 := Tryd.sizeOf5,
  v5 := Tryd.zeroValue5,
  i5 := by kernel_rfl,
  t9 := Tryd.underlying9,
  a9 := Tryd.isAgg9,
  z9 := Tryd.sizeOf9,
  v9 := Tryd.zeroValue9,
  i9 := by kernel_rfl,
  t20 := Tryd.underlying20,
  a20 := Tryd.isAgg20,
  z20 := Tryd.sizeOf20,
  v20 := Tryd.zeroValue20,
  i20 := by kernel_rfl,
  t21 := Tryd.underlying21,
  a21 := Tryd.isAgg21,
  z21 := Tryd.sizeOf21,
  v21 := Tryd.zeroValue21,
  i21 := by kernel_rfl,
  t22 := Tryd.underlying85,
  a22 := Tryd.isAgg85,
  z22 := Tryd.sizeOf85,
  v22 := Tryd.zeroValue85,
  i22 := by kernel_rfl,
  t24 := Tryd.underlying81,
  a24 := Tryd.isAgg81,
  z24 := Tryd.sizeOf81,
  v24 := Tryd.zeroValue81,
  i24 := by kernel_rfl,
  t25 := Tryd.underlying86,
  a25 := Tryd.isAgg86,
  z25 := Tryd.sizeOf86,
  v25 := Tryd.zeroValue86,
  i25 := by kernel_rfl,
  t34 := Tryd.underlying109,
  a34 := Tryd.isAgg109,
  z34 := Tryd.sizeOf109,
  v34 := Tryd.zeroValue109,
  i34 := by kernel_rfl,
  c34 := by kernel_rfl,
  t36 := Tryd.underlying90,
  a36 := Tryd.isAgg90,
  z36 := Tryd.sizeOf90,
  v36 := Tryd.zeroValue90,
  i36 := by kernel_rfl,
  t37 := Tryd.underlying43,
  a37 := Tryd.isAgg43,
  z37 := Tryd.sizeOf43,
  v37 := Tryd.zeroValue43,
  i37 := by kernel_rfl,
  t39 := Tryd.underlying111,
  a39 := Tryd.isAgg111,
  z39 := Tryd.sizeOf111,
  v39 := Tryd.zeroValue111,
  i39 := by kernel_rfl,
  t44 := Tryd.underlying121,
  a44 := Tryd.isAgg121,
  z44 := Tryd.sizeOf121,
  v44 := Tryd.zeroValue121,
  i44 := by kernel_rfl,
  t47 := Tryd.underlying98,
  a47 := Tryd.isAgg98,
  z47 := Tryd.sizeOf98,
  v47 := Tryd.zeroValue98,
  i47 := by kernel_rfl,
  t48 := Tryd.underlying128,
  a48 := Tryd.isAgg128,
  z48 := Tryd.sizeOf128,
  v48 := Tryd.zeroValue128,
  i48 := by kernel_rfl,
  t50 := Tryd.underlying130,
  a50 := Tryd.isAgg130,
  z50 := Tryd.sizeOf130,
  v50 := Tryd.zeroValue130,
  i50 := by kernel_rfl,
  t52 := Tryd.underlying101,
  a52 := Tryd.isAgg101,
  z52 := Tryd.sizeOf101,
  v52 := Tryd.zeroValue101,
  i52 := by kernel_rfl,
  t55 := Tryd.underlying104,
  a55 := Tryd.isAgg104,
  z55 := Tryd.sizeOf104,
  v55 := Tryd.zeroValue104,
  i55 := by kernel_rfl,
  t59 := Tryd.underlying115,
  a59 := Tryd.isAgg115,
  z59 := Tryd.sizeOf115,
  v59 := Tryd.zeroValue115,
  i59 := by kernel_rfl,
  t60 := Tryd.underlying116,
  a60 := Tryd.isAgg116,
  z60 := Tryd.sizeOf116,
  v60 := Tryd.zeroValue116,
  i60 := by kernel_rfl,
  t61 := Tryd.underlying117,
  a61 := Tryd.isAgg117,
  z61 := Tryd.sizeOf117,
  t65 := Tryd.underlying131,
  a65 := Tryd.isAgg131,
  z65 := Tryd.sizeOf131,
  v65 := Tryd.zeroValue131,
  i65 := by kernel_rfl,
  t66 := Tryd.underlying132,
  a66 := Tryd.isAgg132,
  z66 := Tryd.sizeOf132,
  v66 := Tryd.zeroValue132,
  i66 := by kernel_rfl,
  t67 := Tryd.underlying84,
  a67 := Tryd.isAgg84,
  z67 := Tryd.sizeOf84,
  v67 := Tryd.zeroValue84,
  i67 := by kernel_rfl,
  g0 := by kernel_rfl,
  m0 := by kernel_rfl,
  g1 := by kernel_rfl,
  m1 := by kernel_rfl,
  g2 := by kernel_rfl,
  m2 := by kernel_rfl,
  g3 := by kernel_rfl,
  m3 := by kernel_rfl,
  g4 := by kernel_rfl,
  m4 := by kernel_rfl }
def Tryd.lays260_ren : Go.Shelf.Ren := ⟨fun | 260 => 60 | n => n, fun | 9 => 9 | 21 => 21 | 3 => 3 | 4 => 4 | 5 => 5 | 119 => 89 | 0 => 0 | 46 => 90 | 139 => 93 | 138 => 92 | n => n, fun | 3 => 0 | 4 => 1 | n => n⟩
theorem Tryd.lays260 : Go.Proofs.Lays.n260 Tryd.prog Tryd.lays260_ren := {
  mixed := by kernel_rfl,
  f260 := Tryd.func60.trans (congrArg some (by kernel_rfl)),
  t0 := Tryd.underlying0,
  a0 := Tryd.isAgg0,
  z0 := Tryd.sizeOf0,
  v0 := Tryd.zeroValue0,
  t3 := Tryd.underlying3,
  a3 := Tryd.isAgg3,
  z3 := Tryd.sizeOf3,
  v3 := Tryd.zeroValue3,
  t4 := Tryd.underlying4,
  a4 := Tryd.isAgg4,
  z4 := Tryd.sizeOf4,
  v4 := Tryd.zeroValue4,
  t5 := Tryd.underlying5,
  a5 := Tryd.isAgg5,
  z5 := Tryd.sizeOf5,
  v5 := Tryd.zeroValue5,
  t9 := Tryd.underlying9,
  a9 := Tryd.isAgg9,
  z9 := Tryd.sizeOf9,
  v9 := Tryd.zeroValue9,
  t21 := Tryd.underlying21,
  a21 := Tryd.isAgg21,
  z21 := Tryd.sizeOf21,
  v21 := Tryd.zeroValue21,
  t46 := Tryd.underlying90,
  a46 := Tryd.isAgg90,
  z46 := Tryd.sizeOf90,
  v46 := Tryd.zeroValue90,
  t119 := Tryd.underlying89,
  a119 := Tryd.isAgg89,
  z119 := Tryd.sizeOf89,
  t138 := Tryd.underlying92,
  a138 := Tryd.isAgg92,
  z138 := Tryd.sizeOf92,
  v138 := Tryd.zeroValue92,
  t139 := Tryd.underlying93,
  a139 := Tryd.isAgg93,
  z139 := Tryd.sizeOf93,
  v139 := Tryd.zeroValue93,
  g3 := by kernel_rfl,
  g4 := by kernel_rfl }
end Go.Proofs.YthcgccnbhdociaaDoor

namespace Go.Proofs.YthcgccnbhdociaaDoor
open Go Am Go.RowKit
set_option linter.unusedSectionVars false
set_option linter.unusedSimpArgs false
set_option linter.unusedVariables false

section
open Go.Shelf
theorem decode_kit (s : ByteArray) (w : World) (hT : Lib.Utf8Tabs 0 1 w) :
    Calls Tryd.prog 34 #[.string s] w fun e w' => e = .returned (.tuple #[.int .i32 (Lib.decodeGo s).1, .int .i64 (Lib.decodeGo s).2]) ∧ Below w.heap.size w w' := Any.utf8_DecodeRuneInString Tryd.lays197 s w hT
theorem contains_kit (s sub : ByteArray) (m : Int) (w : World) (hs : s.size < 4294967281) (hm : w.cell? ⟨2, 0, none⟩ = some (.int .i64 m)) :
    Calls Tryd.prog 63 #[.string s, .string sub] w fun e w' => e = .returned (.bool (Lib.contains s.data.toList sub.data.toList)) ∧ w' = w := Any.strings_Contains Tryd.lays144 s sub m w hs hm
theorem atoi_kit (s : ByteArray) (n : Int) (hl : s.size ≤ 18) (h : Lib.atoi s.data.toList = some n) (w : World) :
    Calls Tryd.prog 87 #[.string s] w fun e w' => e = .returned (.tuple #[.int .i64 n, .nilIface]) ∧ Below w.heap.size w w' := (Any.strconv_Atoi Tryd.lays172 s n hl h w).mono fun e w' q => ⟨q.1, by obtain ⟨t, rfl⟩ := q.2; exact Lib.bytesWorld_below _ _ _⟩
theorem itoa_kit (n : Int) (h0 : -9223372036854775808 ≤ n) (h1 : n ≤ 9223372036854775807) (w : World)
    (htab : Lib.TabIs Tryd.prog w "internal/strconv.uint64pow10" .u64 Lib.pow10Tab) :
    Calls Tryd.prog 37 #[.int .i64 n] w fun e w' => e = .returned (.string ⟨(Lib.itoa n).toArray⟩) ∧ Below w.heap.size w w' := (Any.strconv_Itoa Tryd.lays171 n h0 h1 w htab).mono fun e w' q => ⟨q.1, by obtain ⟨k, os, rfl⟩ := q.2; exact ⟨rfl, rfl, rfl, by show w.heap.size ≤ (w.heap ++ os).size; rw [Array.size_append]; omega, fun j hj => Array.getElem?_append_left hj⟩⟩
theorem parse_ok_kit (s : ByteArray) (hmax : s.size ≤ 9223372036854775806) (u : Nat) (h : Lib.parseUintB 64 s.data.toList = .ok u) (w : World) :
    Calls Tryd.prog 74 #[.string s, .int .i64 10, .int .i64 64] w fun e w' => e = .returned (.tuple #[.int .u64 u, .nilIface]) ∧ Below w.heap.size w w' := (Any.strconv_ParseUint_10_at64_ok Tryd.laysPu14 s hmax u h w).mono fun e w' q => ⟨q.1, by
      rcases q.2 with rfl | rfl
      · exact Below.refl _ _
      · exact Lib.bytesWorld_below _ _ _⟩
theorem parse_range_kit (s : ByteArray) (hlim : s.size ≤ 281474976710656) (h : Lib.parseUintB 64 s.data.toList = .range) (w : World) (he : ErrAt w 5) :
    Calls Tryd.prog 74 #[.string s, .int .i64 10, .int .i64 64] w fun e w' => (∃ p, e = .returned (.tuple #[.int .u64 18446744073709551615, .iface (Tryd.laysPu14_ren.t 39) p])) ∧ Below w.heap.size w w' := by
  obtain ⟨ev, h1, h2⟩ := he
  refine (Any.strconv_ParseUint_10_at64_range Tryd.laysPu14 s hlim h ev w h1 h2).mono fun e w' q => ?_
  obtain ⟨N, h3, _, _, h6⟩ := q
  exact ⟨⟨_, h3⟩, h6⟩
end

/-- a contract of the kit, as the machine takes it -/
theorem kit_calls {f : FuncId} {args : List V} {v : V} {h : Heap} (hfn : ∃ fn, Tryd.prog.funcs[f]? = some fn ∧ fn.body.isSome = true) (H : ∀ E xs w, LibOk w → RelL E args xs → Calls Tryd.prog f xs.toArray w fun e w' => ∃ x, e = .returned x ∧ Rel E v x ∧ Below w.heap.size w w') : CallsV Tryd.prog f args h v h := by
  refine .inl ⟨hfn, fun w0 E w xs hx s => ?_⟩
  refine (H E xs w (Lay.keep s.laid s.frame) hx).mono fun e w' q => ?_
  obtain ⟨x, rfl, hv, hb⟩ := q
  exact ⟨E, x, rfl, fun _ _ q => q, hv, s.below hb⟩

theorem decode_calls (s : List UInt8) (h : Heap) : CallsV Tryd.prog 34 [.str s] h (.tuple [.int .i32 (Lib.decodeGo ⟨⟨s⟩⟩).1, .int .i64 (Lib.decodeGo ⟨⟨s⟩⟩).2]) h := by
  refine kit_calls ⟨_, Tryd.func34, by kernel_rfl⟩ fun E xs w hl hx => ?_
  obtain ⟨y, ys, rfl, q1, rfl⟩ := hx
  simp only [Rel] at q1
  subst q1
  refine (decode_kit ⟨⟨s⟩⟩ w hl.utf8).mono fun e w' q => ?_
  obtain ⟨rfl, hb⟩ := q
  refine ⟨_, rfl, ?_, hb⟩
  simp only [Rel]
  exact ⟨_, rfl, _, _, rfl, rfl, _, _, rfl, rfl, rfl⟩
theorem contains_calls (s sub : List UInt8) (hs : s.length ≤ 100000) (h : Heap) : CallsV Tryd.prog 63 [.str s, .str sub] h (.bool (Lib.contains s sub)) h := by
  refine kit_calls ⟨_, Tryd.func63, by kernel_rfl⟩ fun E xs w hl hx => ?_
  obtain ⟨y, ys, rfl, q1, z, zs, rfl, q2, rfl⟩ := hx
  simp only [Rel] at q1 q2
  subst q1 q2
  obtain ⟨m, hm⟩ := hl.maxLen
  refine (contains_kit ⟨⟨s⟩⟩ ⟨⟨sub⟩⟩ m w (by show s.length < 4294967281; omega) hm).mono fun e w' q => ?_
  obtain ⟨rfl, rfl⟩ := q
  refine ⟨_, rfl, ?_, Below.refl _ _⟩
  simp only [Rel]
theorem atoi_calls (s : List UInt8) (n : Int) (hl : s.length ≤ 18) (h : Lib.atoi s = some n) (hp : Heap) : CallsV Tryd.prog 87 [.str s] hp (.tuple [.int .i64 n, .nilIface]) hp := by
  refine kit_calls ⟨_, Tryd.func87, by kernel_rfl⟩ fun E xs w hlb hx => ?_
  obtain ⟨y, ys, rfl, q1, rfl⟩ := hx
  simp only [Rel] at q1
  subst q1
  refine (atoi_kit ⟨⟨s⟩⟩ n hl h w).mono fun e w' q => ?_
  obtain ⟨rfl, hb⟩ := q
  refine ⟨_, rfl, ?_, hb⟩
  simp only [Rel]
  exact ⟨_, rfl, _, _, rfl, rfl, _, _, rfl, rfl, rfl⟩
theorem itoa_calls (n : Int) (h0 : -9223372036854775808 ≤ n) (h1 : n ≤ 9223372036854775807) (hp : Heap) : CallsV Tryd.prog 37 [.int .i64 n] hp (.str (Lib.itoa n)) hp := by
  refine kit_calls ⟨_, Tryd.func37, by kernel_rfl⟩ fun E xs w hlb hx => ?_
  obtain ⟨y, ys, rfl, q1, rfl⟩ := hx
  simp only [Rel] at q1
  subst q1
  refine (itoa_kit n h0 h1 w hlb.pow10).mono fun e w' q => ?_
  obtain ⟨rfl, hb⟩ := q
  refine ⟨_, rfl, ?_, hb⟩
  simp only [Rel]
theorem parse_ok (s : List UInt8) (u : Nat) (hl : s.length ≤ 100000) (h : Lib.parseUintB 64 s = .ok u) (hp : Heap) : CallsV Tryd.prog 74 [.str s, .int .i64 10, .int .i64 64] hp (.tuple [.int .u64 u, .nilIface]) hp := by
  refine kit_calls ⟨_, Tryd.func74, by kernel_rfl⟩ fun E xs w hlb hx => ?_
  obtain ⟨y, ys, rfl, q1, z, zs, rfl, q2, t, ts, rfl, q3, rfl⟩ := hx
  simp only [Rel] at q1 q2 q3
  subst q1 q2 q3
  refine (parse_ok_kit ⟨⟨s⟩⟩ (by show s.length ≤ 9223372036854775806; omega) u h w).mono fun e w' q => ?_
  obtain ⟨rfl, hb⟩ := q
  refine ⟨_, rfl, ?_, hb⟩
  simp only [Rel]
  exact ⟨_, rfl, _, _, rfl, rfl, _, _, rfl, rfl, rfl⟩
def errT : TypeId := Tryd.laysPu14_ren.t 39
theorem parse_range (s : List UInt8) (hl : s.length ≤ 100000) (h : Lib.parseUintB 64 s = .range) (hp : Heap) : CallsV Tryd.prog 74 [.str s, .int .i64 10, .int .i64 64] hp (.tuple [.int .u64 18446744073709551615, .iface errT .bad]) hp := by
  refine kit_calls ⟨_, Tryd.func74, by kernel_rfl⟩ fun E xs w hlb hx => ?_
  obtain ⟨y, ys, rfl, q1, z, zs, rfl, q2, t, ts, rfl, q3, rfl⟩ := hx
  simp only [Rel] at q1 q2 q3
  subst q1 q2 q3
  refine (parse_range_kit ⟨⟨s⟩⟩ (by show s.length ≤ 281474976710656; omega) h w hlb.errRange).mono fun e w' q => ?_
  obtain ⟨⟨p, rfl⟩, hb⟩ := q
  refine ⟨_, rfl, ?_, hb⟩
  simp only [Rel]
  exact ⟨_, rfl, _, _, rfl, rfl, _, _, rfl, ⟨p, rfl, trivial⟩, rfl⟩
end Go.Proofs.YthcgccnbhdociaaDoor

namespace Go.Proofs.YthcgccnbhdociaaDoor
open Go Am
set_option linter.unusedSectionVars false
set_option linter.unusedSimpArgs false
set_option linter.unusedVariables false

/-! What Lex says, in plain Lean. -/
/-- how wide the character is that begins there; 0: none does -/
def cw (s : List UInt8) (i : Nat) : Nat := if decodeL s i = (65533, 1) then 0 else (decodeL s i).2
def rightF : Nat → List UInt8 → Nat → Nat
  | 0, s, _ => s.length
  | f + 1, s, a => if a < s.length then (if cw s a = 0 then a else rightF f s (a + cw s a)) else s.length
def rightA (s : List UInt8) (a : Nat) : Nat := rightF (s.length - a) s a
def rightM (s : List UInt8) : Nat := rightA s 0
theorem rightF_stable (s : List UInt8) : ∀ (f g a : Nat), s.length - a ≤ f → s.length - a ≤ g → rightF f s a = rightF g s a
  | 0, g, a, h1, h2 => by
    cases g with
    | zero => rfl
    | succ g => simp only [rightF]; rw [if_neg (by omega)]
  | f + 1, 0, a, h1, h2 => by simp only [rightF]; rw [if_neg (by omega)]
  | f + 1, g + 1, a, h1, h2 => by
    simp only [rightF]
    by_cases ha : a < s.length
    · rw [if_pos ha, if_pos ha]
      by_cases hc : cw s a = 0
      · rw [if_pos hc, if_pos hc]
      · rw [if_neg hc, if_neg hc]
        exact rightF_stable s f g _ (by omega) (by omega)
    · rw [if_neg ha, if_neg ha]
theorem rightA_end {s : List UInt8} {a : Nat} (h : s.length ≤ a) : rightA s a = s.length := by
  unfold rightA
  rw [show s.length - a = 0 from by omega]
  rfl
theorem rightA_bad {s : List UInt8} {a : Nat} (h : a < s.length) (hc : cw s a = 0) : rightA s a = a := by
  unfold rightA
  rw [show s.length - a = s.length - a - 1 + 1 from by omega, rightF, if_pos h, if_pos hc]
theorem rightA_step {s : List UInt8} {a : Nat} (h : a < s.length) (hc : cw s a ≠ 0) : rightA s a = rightA s (a + cw s a) := by
  unfold rightA
  rw [show s.length - a = s.length - a - 1 + 1 from by omega, rightF, if_pos h, if_neg hc]
  exact rightF_stable s _ _ _ (by omega) (by omega)
theorem rightA_le {s : List UInt8} : ∀ (f a : Nat), rightF f s a ≤ s.length
  | 0, a => Nat.le_refl _
  | f + 1, a => by
    simp only [rightF]
    split
    · split
      · omega
      · exact rightA_le f _
    · omega

def dig (c : UInt8) : Bool := digitB c.toNat
def ltr (c : UInt8) : Bool := letterB c.toNat
def valM (l : List UInt8) : Nat := l.foldl (fun n c => 10 * n + (c.toNat - 48)) 0
/-- a word: its kind, its number, its text, how many bytes it takes; or what is wrong -/
abbrev Res := Except Int (Int × Int × List UInt8 × Nat)
def numM (r : List UInt8) : Res :=
  let t := r.takeWhile dig
  if 2147483647 < valM t then .error 254 else .ok (1, (if 1073741823 < (valM t : Int) then (valM t : Int) - 2147483648 else valM t), [], t.length)
def escM : List UInt8 → Option (UInt8 × Nat)
  | [] => none
  | c :: r => if c = 110 then some (10, 1) else if c = 116 then some (9, 1) else if c = 34 then some (34, 1) else if c = 92 then some (92, 1) else
    if 2 ≤ r.length ∧ dig c ∧ dig (r[0]?.getD 0) ∧ dig (r[1]?.getD 0) ∧ valM (c :: r.take 2) < 256 then some ((valM (c :: r.take 2)).toUInt8, 3) else none
def textF : Nat → List UInt8 → Option (List UInt8 × Nat)
  | 0, _ => none
  | _ + 1, [] => none
  | f + 1, c :: r => if c = 34 then some ([], 1) else if c = 92 then (match escM r with
      | none => none
      | some (b, n) => (textF f (r.drop n)).map fun q => (b :: q.1, q.2 + n + 1))
    else if c < 32 ∨ c = 127 then none else (textF f r).map fun q => (c :: q.1, q.2 + 1)
def textM (r : List UInt8) : Option (List UInt8 × Nat) := textF r.length r
def strM (r : List UInt8) : Res :=
  match textM r with
  | none => .error 252
  | some (b, n) => if 4096 < b.length then .error 255 else .ok (2, 0, b, n + 1)
def keyList : List (List UInt8) := [[97, 110, 100], [98, 101, 103, 105, 110], [101, 108, 115, 101], [101, 110, 100], [101, 120, 99, 101, 112, 116, 105, 111, 110], [102, 97, 108, 115, 101], [102, 117, 110], [105, 102], [105, 110], [108, 101, 116], [109, 97, 116, 99, 104], [109, 111, 100], [111, 102], [114, 97, 105, 115, 101], [114, 101, 99], [116, 104, 101, 110], [116, 114, 117, 101], [116, 114, 121], [116, 121, 112, 101], [119, 105, 116, 104]]
def signList : List (List UInt8) := [[59, 59], [58, 61], [45, 62], [60, 61], [59], [40], [41], [44], [61], [60], [43], [45], [42], [47], [124], [33], [95]]
def keyB (t : List UInt8) : Bool := keyList.contains t
def nameM (kind : Int) (r : List UInt8) : Res :=
  let t := r.takeWhile ltr
  if kind = 3 ∧ t = [95] then .ok (7, 0, t, t.length) else if kind = 3 ∧ keyB t then .ok (6, 0, t, t.length) else if 64 < t.length then .error 255 else .ok (kind, 0, t, t.length)
def signM (r : List UInt8) : Res :=
  match signList.find? (·.isPrefixOf r) with
  | some t => .ok (7, 0, t, t.length)
  | none => .error 251
def headSmall : List UInt8 → Bool
  | d :: _ => smallB d.toNat
  | [] => false
def nextM : List UInt8 → Res
  | [] => .error 0
  | c :: r => if dig c then numM (c :: r) else if c = 34 then strM r else if smallB c.toNat || c = 95 then nameM 3 (c :: r) else if greatB c.toNat then nameM 4 (c :: r) else
    if c = 39 ∧ headSmall r then (nameM 5 r).map fun q => (q.1, q.2.1, q.2.2.1, q.2.2.2 + 1) else signM (c :: r)
structure Wd where
  kind : Int
  num : Int
  pos : Nat
  text : List UInt8
deriving DecidableEq
def blank (c : UInt8) : Bool := c = 9 || c = 10 || c = 13 || c = 32
def consOk (w : Wd) : Except (Int × Nat) (List Wd) → Except (Int × Nat) (List Wd)
  | .ok ws => .ok (w :: ws)
  | .error e => .error e
def lexF : Nat → List UInt8 → Nat → Except (Int × Nat) (List Wd)
  | 0, _, _ => .ok []
  | _ + 1, [], _ => .ok []
  | f + 1, c :: r, p => if blank c then lexF f r (p + 1) else if ([40, 42] : List UInt8).isPrefixOf (c :: r) then (match noteM (c :: r) 0 with
      | none => .error (253, p)
      | some n => lexF f ((c :: r).drop n) (p + n))
    else match nextM (c :: r) with
      | .error e => .error (e, p)
      | .ok q => consOk ⟨q.1, q.2.1, p, q.2.2.1⟩ (lexF f ((c :: r).drop q.2.2.2) (p + q.2.2.2))
def lexR (r : List UInt8) (p : Nat) : Except (Int × Nat) (List Wd) := lexF r.length r p
def lexM (s : List UInt8) : Except (Int × Nat) (List Wd) :=
  if 65536 < s.length then .error (3, 0) else if rightM s < s.length then .error (250, rightM s) else lexR s 0

/-! Steps. -/
theorem take_pos {p : UInt8 → Bool} {c : UInt8} {r : List UInt8} (h : p c = true) : 1 ≤ ((c :: r).takeWhile p).length := by
  simp only [List.takeWhile_cons, h, if_true, List.length_cons]
  omega
theorem sign_pos {t : List UInt8} (h : t ∈ signList) : 1 ≤ t.length := by
  revert t
  decide
theorem small_ltr {c : UInt8} (h : smallB c.toNat = true) : ltr c = true := by unfold ltr letterB; rw [h]; simp
theorem great_ltr {c : UInt8} (h : greatB c.toNat = true) : ltr c = true := by unfold ltr letterB; rw [h]; simp
theorem under_ltr {c : UInt8} (h : c = 95) : ltr c = true := by subst h; decide
theorem nameM_pos {k : Int} {r : List UInt8} {q : Int × Int × List UInt8 × Nat} (h : nameM k r = .ok q) : q.2.2.2 = (r.takeWhile ltr).length := by
  unfold nameM at h
  simp only at h
  split at h
  · cases h; rfl
  · split at h
    · cases h; rfl
    · split at h
      · cases h
      · cases h; rfl
theorem nextM_pos {r : List UInt8} {q : Int × Int × List UInt8 × Nat} (h : nextM r = .ok q) : 1 ≤ q.2.2.2 := by
  match r, h with
  | c :: r, h =>
    simp only [nextM] at h
    split at h
    · rename_i hd
      unfold numM at h
      simp only at h
      split at h
      · cases h
      · cases h
        exact take_pos hd
    · split at h
      · unfold strM at h
        split at h
        · cases h
        · split at h
          · cases h
          · cases h; simp only; omega
      · split at h
        · rename_i hs
          rw [nameM_pos h]
          simp only [Bool.or_eq_true, decide_eq_true_eq] at hs
          exact take_pos (hs.elim small_ltr under_ltr)
        · split at h
          · rename_i hs
            rw [nameM_pos h]
            exact take_pos (great_ltr hs)
          · split at h
            · cases hn : nameM 5 r with
              | error e => rw [hn] at h; cases h
              | ok q' => rw [hn] at h; cases h; simp only; omega
            · unfold signM at h
              split at h
              · rename_i t ht
                cases h
                exact sign_pos (List.mem_of_find?_eq_some ht)
              · cases h
theorem noteM_pos : ∀ {r : List UInt8} {d : Int} {n : Nat}, noteM r d = some n → 2 ≤ n
  | [], d, n, h => by simp [noteM] at h
  | [_], d, n, h => by simp [noteM] at h
  | x :: y :: r, d, n, h => by
    rw [noteM] at h
    split at h
    · cases hq : noteM r (d + 1) with
      | none => rw [hq] at h; cases h
      | some m => rw [hq] at h; cases h; simp only; omega
    · split at h
      · split at h
        · cases h; omega
        · cases hq : noteM r (d - 1) with
          | none => rw [hq] at h; cases h
          | some m => rw [hq] at h; cases h; simp only; omega
      · cases hq : noteM (y :: r) d with
        | none => rw [hq] at h; cases h
        | some m => rw [hq] at h; cases h; have := noteM_pos hq; simp only; omega
theorem lexF_stable : ∀ (f g : Nat) (r : List UInt8) (p : Nat), r.length ≤ f → r.length ≤ g → lexF f r p = lexF g r p
  | 0, g, r, p, h1, h2 => by
    have : r = [] := List.length_eq_zero_iff.1 (by omega)
    subst this
    cases g <;> rfl
  | f + 1, 0, r, p, h1, h2 => by
    have : r = [] := List.length_eq_zero_iff.1 (by omega)
    subst this
    rfl
  | f + 1, g + 1, [], p, h1, h2 => rfl
  | f + 1, g + 1, c :: r, p, h1, h2 => by
    simp only [List.length_cons] at h1 h2
    simp only [lexF]
    split
    · exact lexF_stable f g _ _ (by omega) (by omega)
    · split
      · split
        · rfl
        · rename_i n hn
          have := noteM_pos hn
          exact lexF_stable f g _ _ (by rw [List.length_drop, List.length_cons]; omega) (by rw [List.length_drop, List.length_cons]; omega)
      · split
        · rfl
        · rename_i q hq
          have := nextM_pos hq
          rw [lexF_stable f g _ _ (by rw [List.length_drop, List.length_cons]; omega) (by rw [List.length_drop, List.length_cons]; omega)]
theorem lexR_cons (c : UInt8) (r : List UInt8) (p : Nat) : lexR (c :: r) p = if blank c then lexR r (p + 1) else if ([40, 42] : List UInt8).isPrefixOf (c :: r) then (match noteM (c :: r) 0 with
      | none => .error (253, p)
      | some n => lexR ((c :: r).drop n) (p + n))
    else match nextM (c :: r) with
      | .error e => .error (e, p)
      | .ok q => consOk ⟨q.1, q.2.1, p, q.2.2.1⟩ (lexR ((c :: r).drop q.2.2.2) (p + q.2.2.2)) := by
  unfold lexR
  simp only [List.length_cons, lexF]
  split
  · rfl
  · split
    · split
      · rfl
      · rename_i n hn
        have := noteM_pos hn
        exact lexF_stable _ _ _ _ (by rw [List.length_drop, List.length_cons]; omega) (Nat.le_refl _)
    · split
      · rfl
      · rename_i q hq
        have := nextM_pos hq
        rw [lexF_stable _ _ _ _ (by rw [List.length_drop, List.length_cons]; omega) (Nat.le_refl _)]
theorem textF_stable : ∀ (f g : Nat) (r : List UInt8), r.length ≤ f → r.length ≤ g → textF f r = textF g r
  | 0, g, r, h1, h2 => by
    have : r = [] := List.length_eq_zero_iff.1 (by omega)
    subst this
    cases g <;> rfl
  | f + 1, 0, r, h1, h2 => by
    have : r = [] := List.length_eq_zero_iff.1 (by omega)
    subst this
    rfl
  | f + 1, g + 1, [], h1, h2 => rfl
  | f + 1, g + 1, c :: r, h1, h2 => by
    simp only [List.length_cons] at h1 h2
    simp only [textF]
    split
    · rfl
    · split
      · split
        · rfl
        · rw [textF_stable f g _ (by rw [List.length_drop]; omega) (by rw [List.length_drop]; omega)]
      · split
        · rfl
        · rw [textF_stable f g _ (by omega) (by omega)]
theorem textM_nil : textM [] = none := rfl
theorem textM_cons (c : UInt8) (r : List UInt8) : textM (c :: r) = if c = 34 then some ([], 1) else if c = 92 then (match escM r with
      | none => none
      | some (b, n) => (textM (r.drop n)).map fun q => (b :: q.1, q.2 + n + 1))
    else if c < 32 ∨ c = 127 then none else (textM r).map fun q => (c :: q.1, q.2 + 1) := by
  unfold textM
  simp only [List.length_cons, textF]
  split
  · rfl
  · split
    · split
      · rfl
      · rw [textF_stable _ _ _ (by rw [List.length_drop]; omega) (Nat.le_refl _)]
    · rfl

/-- digits' value, as the library reads it -/
theorem fold_mono : ∀ (l : List UInt8) (a : Nat), a ≤ l.foldl (fun n c => 10 * n + (c.toNat - 48)) a
  | [], a => Nat.le_refl _
  | c :: l, a => by
    simp only [List.foldl_cons]
    exact Nat.le_trans (by omega) (fold_mono l _)
def fv (a : Nat) (l : List UInt8) : Nat := l.foldl (fun n c => 10 * n + (c.toNat - 48)) a
theorem fv_cons (a : Nat) (c : UInt8) (l : List UInt8) : fv a (c :: l) = fv (10 * a + (c.toNat - 48)) l := by unfold fv; rw [List.foldl_cons]
theorem parse_fold (M : Nat) (hM : M < 18446744073709551620) (l : List UInt8) : ∀ (a : Nat), (∀ c ∈ l, dig c = true) → (fv a l ≤ M → Lib.parseUintM M a l = .ok (fv a l)) ∧ (a ≤ M → ¬ fv a l ≤ M → Lib.parseUintM M a l = .range) := by
  induction l with
  | nil =>
    intro a _
    refine ⟨fun _ => ?_, fun h1 h2 => absurd h1 h2⟩
    simp only [Lib.parseUintM, fv, List.foldl_nil]
  | cons c l ihl =>
    intro a h
    have hc := h c (List.mem_cons_self ..)
    simp only [dig, digitB, Bool.and_eq_true, decide_eq_true_eq] at hc
    have hc1 : 48 ≤ c.toNat ∧ c.toNat ≤ 57 := by omega
    have ih := ihl (10 * a + (c.toNat - 48)) (fun x hx => h x (List.mem_cons_of_mem _ hx))
    have hm : 10 * a + (c.toNat - 48) ≤ fv (10 * a + (c.toNat - 48)) l := fold_mono l (10 * a + (c.toNat - 48))
    simp only [Lib.parseUintM, hc1, and_self, if_true]
    rw [Nat.mul_comm a 10, fv_cons]
    have hA : 10 * a ≤ 10 * a + (c.toNat - 48) := Nat.le_add_right _ _
    generalize 10 * a + (c.toNat - 48) = A at ih hm hA ⊢
    refine ⟨fun hlt => ?_, fun ha hge => ?_⟩
    · rw [if_neg (by omega), if_neg (by omega)]
      exact ih.1 hlt
    · by_cases h1 : 1844674407370955162 ≤ a
      · rw [if_pos h1]
      · rw [if_neg h1]
        by_cases h2 : M < A
        · rw [if_pos h2]
        · rw [if_neg h2]
          exact ih.2 (by omega) hge
theorem parse_digits (l : List UInt8) (h : ∀ c ∈ l, dig c = true) (hl : l ≠ []) : (valM l ≤ 18446744073709551615 → Lib.parseUintB 64 l = .ok (valM l)) ∧ (¬ valM l ≤ 18446744073709551615 → Lib.parseUintB 64 l = .range) := by
  unfold Lib.parseUintB
  rw [if_neg hl, show (2 ^ 64 - 1 : Nat) = 18446744073709551615 from by decide]
  have := parse_fold 18446744073709551615 (by omega) l 0 h
  exact ⟨this.1, this.2 (Nat.zero_le _)⟩
end Go.Proofs.YthcgccnbhdociaaDoor

namespace Go.Proofs.YthcgccnbhdociaaDoor
open Go Am
set_option linter.unusedSectionVars false
set_option linter.unusedSimpArgs false
set_option linter.unusedVariables false

/-- what a word's function does: a word, or an error -/
structure WOut (s : List UInt8) (p : Nat) (b : Pa) (h : Heap) (res : Res) (x : V) (h' : Heap) : Prop where
  mod : Mod (fun q => q = b) h h'
  res : ∃ k n t, x = .agg [.int .i64 k, .int .i64 n, .int .i64 0, .str t] ∧ match res with
     | .ok q => k = q.1 ∧ n = q.2.1 ∧ t = q.2.2.1 ∧ h'.get b = scB s ((p + q.2.2.2 : Nat) : Int) 0 ∧ p + q.2.2.2 ≤ s.length
     | .error e => e ≠ 0 ∧ ∃ a' : Int, h'.get b = scB s a' e

theorem neq81_nil {P : Program} : (BK.eqn true 5).run P .nilIface .nilIface = some (.bool false) := rfl
theorem neq81_some {P : Program} (T : TypeId) (x : V) : (BK.eqn true 5).run P (.iface T x) .nilIface = some (.bool true) := rfl
theorem take_all {p : UInt8 → Bool} {l : List UInt8} : ∀ c ∈ l.takeWhile p, p c = true := fun c hc => by
  induction l with
  | nil => simp at hc
  | cons x l ih =>
    simp only [List.takeWhile_cons] at hc
    split at hc
    · rename_i hx
      rcases List.mem_cons.1 hc with rfl | hc
      · exact hx
      · exact ih hc
    · simp at hc
theorem take_le (p : UInt8 → Bool) (s : List UInt8) (a : Nat) : ((s.drop a).takeWhile p).length ≤ s.length - a := by
  have := take_while_len p (s.drop a)
  rwa [List.length_drop] at this

theorem number_ctr (s : List UInt8) (a0 : Nat) (b : Pa) (h : Heap) (hb : h.get b = scB s a0 0) (h0 : a0 < s.length) (hs : s.length ≤ 100000) (hob : Old h b) (hd : dig s[a0] = true) :
    Ctr Tryd.prog 45 [.ptr b 0] h (WOut s a0 b h (numM (s.drop a0))) := by
  refine c45_ctr rfl (wpK_of ?_)
  unfold c45
  have nb : (b = pa h.next) = False := new_ne hob (Nat.le_refl _)
  have bn : (pa h.next = b) = False := by rw [← nb]; exact propext eq_comm
  simp +contextual only [hb, nb, bn, ↓wA, wB, wZ, repeatV, RX.evs, spl, over, ones, Ex.ends, evR, oneOf, top, ↓reduceIte, Nat.reduceEqDiff, Nat.reduceLeDiff, Nat.reduceAdd, Nat.reduceSub, Nat.reduceMul, reduceCtorEq, Int.reduceEq, Int.reduceLT, Int.reduceLE, Int.reduceNeg, Int.reduceAdd, Int.reduceSub]
  have hx : Ext h (h.new (.ofL [.int .i64 0, .int .i64 0, .int .i64 0, .str []] 0 false)) := (Ext.refl h).new _
  refine callK_intro (run_ctr s a0 0 b 44 digitB _ (by rw [hx.get _ hob, hb]) (by omega) hs (fun c h => digit_pure c h)) ?_
  rintro x h1 ⟨rfl, hm, hg⟩
  have et : (fun c : UInt8 => digitB (c.toNat : Int)) = dig := rfl
  rw [et] at hg ⊢
  have hmm : Mod (fun q => q = b) h h1 := (hx.mod _).trans hm
  have g1 : h1.get (pa h.next) = .ofL [.int .i64 0, .int .i64 0, .int .i64 0, .str []] 0 false := by
    rw [hm.get _ (old_lt (by rw [next_new]; omega)) (by rw [bn]; exact id)]
    simp only [↓wA, wB, wZ, repeatV, RX.evs, spl, over, ones, Ex.ends, evR, oneOf, top, ↓reduceIte, Nat.reduceEqDiff, Nat.reduceLeDiff, Nat.reduceAdd, Nat.reduceSub, Nat.reduceMul, reduceCtorEq, Int.reduceEq, Int.reduceLT, Int.reduceLE, Int.reduceNeg, Int.reduceAdd, Int.reduceSub]
  have hne : (s.drop a0).takeWhile dig ≠ [] := by
    rw [drop_cons h0, List.takeWhile_cons, hd]
    simp
  have hlen := take_le dig s a0
  have hp := parse_digits ((s.drop a0).takeWhile dig) take_all hne
  unfold scB at hg
  have hn1 : numM (s.drop a0) = if 2147483647 < valM ((s.drop a0).takeWhile dig) then .error 254 else .ok (1, (if 1073741823 < (valM ((s.drop a0).takeWhile dig) : Int) then (valM ((s.drop a0).takeWhile dig) : Int) - 2147483648 else valM ((s.drop a0).takeWhile dig)), [], ((s.drop a0).takeWhile dig).length) := rfl
  rw [hn1]
  generalize (s.drop a0).takeWhile dig = t at *
  simp +contextual only [↓wA, wB, wZ, repeatV, RX.evs, spl, over, ones, Ex.ends, evR, oneOf, top, ↓reduceIte, Nat.reduceEqDiff, Nat.reduceLeDiff, Nat.reduceAdd, Nat.reduceSub, Nat.reduceMul, reduceCtorEq, Int.reduceEq, Int.reduceLT, Int.reduceLE, Int.reduceNeg, Int.reduceAdd, Int.reduceSub]
  by_cases hbig : valM t ≤ 18446744073709551615
  · refine callK_pure (parse_ok t (valM t) (by omega) (hp.1 hbig) h1) ?_
    generalize valM t = u at *
    by_cases h31 : (2147483647 : Int) < (u : Int)
    · have h31' : 2147483647 < u := by omega
      simp +contextual only [neq81_nil, h31, g1, hg, nb, bn, ↓wA, wB, wZ, repeatV, RX.evs, spl, over, ones, Ex.ends, evR, oneOf, top, ↓reduceIte, Nat.reduceEqDiff, Nat.reduceLeDiff, Nat.reduceAdd, Nat.reduceSub, Nat.reduceMul, reduceCtorEq, Int.reduceEq, Int.reduceLT, Int.reduceLE, Int.reduceNeg, Int.reduceAdd, Int.reduceSub]
      refine ⟨(hmm.set (fun _ => rfl) _).set (fun q => absurd (show unPa (pa h.next) < h.next from q) (by rw [unPa_pa]; omega)) _, ?_⟩
      rw [if_pos h31']
      refine ⟨_, _, _, rfl, by decide, ((a0 + t.length : Nat) : Int), ?_⟩
      simp only [scB, nb, bn, ↓wA, wB, wZ, repeatV, RX.evs, spl, over, ones, Ex.ends, evR, oneOf, top, ↓reduceIte, Nat.reduceEqDiff, Nat.reduceLeDiff, Nat.reduceAdd, Nat.reduceSub, Nat.reduceMul, reduceCtorEq, Int.reduceEq, Int.reduceLT, Int.reduceLE, Int.reduceNeg, Int.reduceAdd, Int.reduceSub]
    · have h31' : ¬ 2147483647 < u := by omega
      have w1 : IntKind.i64.wrap (u : Int) = (u : Int) := wrap_i64 (by omega) (by omega)
      have w2 : IntKind.i64.wrap ((u : Int) - 2147483648) = (u : Int) - 2147483648 := wrap_i64 (by omega) (by omega)
      by_cases h30 : (1073741823 : Int) < (u : Int)
      · simp +contextual only [neq81_nil, h31, h31', h30, g1, hg, nb, bn, w1, w2, ↓wA, wB, wZ, repeatV, RX.evs, spl, over, ones, Ex.ends, evR, oneOf, top, ↓reduceIte, Nat.reduceEqDiff, Nat.reduceLeDiff, Nat.reduceAdd, Nat.reduceSub, Nat.reduceMul, reduceCtorEq, Int.reduceEq, Int.reduceLT, Int.reduceLE, Int.reduceNeg, Int.reduceAdd, Int.reduceSub]
        refine ⟨(hmm.set (fun q => absurd (show unPa (pa h.next) < h.next from q) (by rw [unPa_pa]; omega)) _), ?_⟩
        refine ⟨_, _, _, rfl, rfl, rfl, rfl, ?_, by show a0 + t.length ≤ s.length; omega⟩
        simp only [scB, hg, nb, bn, ↓wA, wB, wZ, repeatV, RX.evs, spl, over, ones, Ex.ends, evR, oneOf, top, ↓reduceIte, Nat.reduceEqDiff, Nat.reduceLeDiff, Nat.reduceAdd, Nat.reduceSub, Nat.reduceMul, reduceCtorEq, Int.reduceEq, Int.reduceLT, Int.reduceLE, Int.reduceNeg, Int.reduceAdd, Int.reduceSub]
      · simp +contextual only [neq81_nil, h31, h31', h30, g1, hg, nb, bn, w1, w2, ↓wA, wB, wZ, repeatV, RX.evs, spl, over, ones, Ex.ends, evR, oneOf, top, ↓reduceIte, Nat.reduceEqDiff, Nat.reduceLeDiff, Nat.reduceAdd, Nat.reduceSub, Nat.reduceMul, reduceCtorEq, Int.reduceEq, Int.reduceLT, Int.reduceLE, Int.reduceNeg, Int.reduceAdd, Int.reduceSub]
        refine ⟨(hmm.set (fun q => absurd (show unPa (pa h.next) < h.next from q) (by rw [unPa_pa]; omega)) _), ?_⟩
        refine ⟨_, _, _, rfl, rfl, rfl, rfl, ?_, by show a0 + t.length ≤ s.length; omega⟩
        simp only [scB, hg, nb, bn, ↓wA, wB, wZ, repeatV, RX.evs, spl, over, ones, Ex.ends, evR, oneOf, top, ↓reduceIte, Nat.reduceEqDiff, Nat.reduceLeDiff, Nat.reduceAdd, Nat.reduceSub, Nat.reduceMul, reduceCtorEq, Int.reduceEq, Int.reduceLT, Int.reduceLE, Int.reduceNeg, Int.reduceAdd, Int.reduceSub]
  · refine callK_pure (parse_range t (by omega) (hp.2 hbig) h1) ?_
    have h31' : 2147483647 < valM t := by omega
    rw [if_pos h31']
    simp +contextual only [neq81_some, g1, hg, nb, bn, ↓wA, wB, wZ, repeatV, RX.evs, spl, over, ones, Ex.ends, evR, oneOf, top, ↓reduceIte, Nat.reduceEqDiff, Nat.reduceLeDiff, Nat.reduceAdd, Nat.reduceSub, Nat.reduceMul, reduceCtorEq, Int.reduceEq, Int.reduceLT, Int.reduceLE, Int.reduceNeg, Int.reduceAdd, Int.reduceSub]
    refine ⟨(hmm.set (fun _ => rfl) _).set (fun q => absurd (show unPa (pa h.next) < h.next from q) (by rw [unPa_pa]; omega)) _, ?_⟩
    refine ⟨_, _, _, rfl, by decide, ((a0 + t.length : Nat) : Int), ?_⟩
    simp only [scB, nb, bn, ↓wA, wB, wZ, repeatV, RX.evs, spl, over, ones, Ex.ends, evR, oneOf, top, ↓reduceIte, Nat.reduceEqDiff, Nat.reduceLeDiff, Nat.reduceAdd, Nat.reduceSub, Nat.reduceMul, reduceCtorEq, Int.reduceEq, Int.reduceLT, Int.reduceLE, Int.reduceNeg, Int.reduceAdd, Int.reduceSub]
end Go.Proofs.YthcgccnbhdociaaDoor
