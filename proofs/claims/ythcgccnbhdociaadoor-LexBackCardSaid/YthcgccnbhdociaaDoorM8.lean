/- The chapter's functions, walked by the abstract machine: plain lemmas, no condition. -/
import Derived.Test.YthcgccnbhdociaaDoorM6
import Derived.Test.YthcgccnbhdociaaDoorM3
import Derived.Test.YthcgccnbhdociaaDoorM7
import Derived.Test.YthcgccnbhdociaaDoorM5
import Derived.Lay
import Derived.LaidLaws
import Derived.PinnedBridge
import Derived.Lib.LaidU8T
import Derived.Shelf.Vars
import Derived.MakeChecks

namespace Go.Proofs.YthcgccnbhdociaaDoor
open Go Am Go.RowKit
set_option linter.unusedSectionVars false
set_option linter.unusedSimpArgs false
set_option linter.unusedVariables false

/-! Words that are handed in. -/
theorem cells31 : Tryd.prog.cellsOf 31 = 4 := by kernel_rfl
theorem cells3 : Tryd.prog.cellsOf 3 = 1 := by kernel_rfl
theorem cells9 : Tryd.prog.cellsOf 9 = 1 := by kernel_rfl
theorem four {vs : List V} (h : vs.length = 4) : ∃ a b c d, vs = [a, b, c, d] := by
  match vs, h with
  | [a, b, c, d], _ => exact ⟨a, b, c, d, rfl⟩
theorem open_word {h : Heap} {n : Nat} {vs : List V} (H : Shp Tryd.prog h n 31 vs) : ∃ w : Wi, vs = w.enc ∧ w.text.length ≤ maxLen := by
  obtain ⟨m, rfl, h1, h2⟩ := H.struct Tryd.underlying31
  rw [cells31] at h1
  obtain ⟨a, b, c, d, rfl⟩ := four h1
  have f0 := h2 _ (List.mem_of_getElem? (i := 0) rfl)
  have f1 := h2 _ (List.mem_of_getElem? (i := 1) rfl)
  have f2 := h2 _ (List.mem_of_getElem? (i := 2) rfl)
  have f3 := h2 _ (List.mem_of_getElem? (i := 3) rfl)
  simp only [cells3, cells9, List.drop_zero, List.drop_succ_cons, List.take_succ_cons, List.take_zero] at f0 f1 f2 f3
  obtain ⟨i0, e0, _⟩ := f0.int Tryd.underlying3
  obtain ⟨i1, e1, _⟩ := f1.int Tryd.underlying3
  obtain ⟨i2, e2, _⟩ := f2.int Tryd.underlying3
  obtain ⟨s, e3, hs⟩ := f3.str Tryd.underlying9
  simp only [List.cons.injEq, and_true] at e0 e1 e2 e3
  subst e0 e1 e2 e3
  exact ⟨⟨i0, i1, i2, s⟩, rfl, hs⟩
theorem wisV_flat : ∀ ws : List Wi, wisV ws = ws.flatMap Wi.enc
  | [] => rfl
  | w :: ws => by rw [wisV, wisV_flat ws, List.flatMap_cons]
set_option maxRecDepth 100000 in
theorem open_words {h : Heap} {n : Nat} {x : V} (H : ShpV Tryd.prog h n 23 x) : ∃ ws : List Wi, SlV h 4 x ws.length (wisV ws) ∧ ws.length ≤ maxLen ∧ ∀ w ∈ ws, w.text.length ≤ maxLen := by
  obtain ⟨m, len, g1, g2, g3, g4, g5, us, k1, k2⟩ := shpv_slice H Tryd.underlying23 cells31 (by omega)
  obtain ⟨ws, q1, q2, q3⟩ := collect Wi.enc 4 (fun w : Wi => w.text.length ≤ maxLen) len us k1.1 (fun i hi => open_word (k2 i hi))
  rw [← wisV_flat] at q2
  subst q1 q2
  exact ⟨ws, k1, g5, q3⟩

/-- too large to be tried -/
def largeM (ws : List Wi) : Bool := ws.any (fun w => decide (200 < w.text.length)) || decide (200 < ws.length)
theorem large_pure (v : V) (ws : List Wi) (h : Heap) (H : SlV h 4 v ws.length (wisV ws)) (hl : ws.length ≤ maxLen) : CallsV Tryd.prog 17 [v, .int .i64 200] h (.bool (largeM ws)) h := by
  have hmax : maxLen = 9223372036854775807 := by decide
  rw [hmax] at hl
  refine pure_calls (c17_ctr rfl (wpK_of ?_))
  unfold c17
  simp +contextual only [↓wA, wB, wZ, repeatV, RX.evs, spl, over, ones, Ex.ends, evR, oneOf, top, ↓reduceIte, Nat.reduceEqDiff, Nat.reduceLeDiff, Nat.reduceAdd, Nat.reduceSub, Nat.reduceMul, reduceCtorEq, Int.reduceEq, Int.reduceLT, Int.reduceLE, Int.reduceNeg, Int.reduceAdd, Int.reduceSub]
  refine loopK_intro (fun r h' => h' = h ∧ r 0 = v ∧ r 1 = .int .i64 200 ∧ ∃ i : Nat, r 5 = .int .i64 i ∧ i ≤ ws.length ∧ largeM ws = ((ws.drop i).any (fun w => decide (200 < w.text.length)) || decide (200 < ws.length))) (fun r h' => ws.length - (r 5).toN) ?_ ?_
  · exact ⟨rfl, by simp only [↓wA, wB, wZ, repeatV, RX.evs, spl, over, ones, Ex.ends, evR, oneOf, top, ↓reduceIte, Nat.reduceEqDiff, Nat.reduceLeDiff, Nat.reduceAdd, Nat.reduceSub, Nat.reduceMul, reduceCtorEq, Int.reduceEq, Int.reduceLT, Int.reduceLE, Int.reduceNeg, Int.reduceAdd, Int.reduceSub], by simp only [↓wA, wB, wZ, repeatV, RX.evs, spl, over, ones, Ex.ends, evR, oneOf, top, ↓reduceIte, Nat.reduceEqDiff, Nat.reduceLeDiff, Nat.reduceAdd, Nat.reduceSub, Nat.reduceMul, reduceCtorEq, Int.reduceEq, Int.reduceLT, Int.reduceLE, Int.reduceNeg, Int.reduceAdd, Int.reduceSub], 0, by simp only [↓wA, wB, wZ, repeatV, RX.evs, spl, over, ones, Ex.ends, evR, oneOf, top, ↓reduceIte, Nat.reduceEqDiff, Nat.reduceLeDiff, Nat.reduceAdd, Nat.reduceSub, Nat.reduceMul, reduceCtorEq, Int.reduceEq, Int.reduceLT, Int.reduceLE, Int.reduceNeg, Int.reduceAdd, Int.reduceSub] <;> rfl, by omega, rfl⟩
  · rintro r h' ⟨rfl, r0, r1, i, r5, hi, hok⟩
    unfold c17l1
    by_cases hlt : i < ws.length
    · have g0 : ((i : Int) < (ws.length : Int)) = True := eq_true (by omega)
      obtain ⟨b1, o1, ia1, at1⟩ := H.ia (k := .i64) hlt
      have ld1 := at1.cell (i := i * 4) (j := 3) (n := 4) (wisV_at ws i hlt) (by rw [wisV_len]; omega) (by omega)
      rw [show (ws[i].enc)[3]? = some (.str ws[i].text) from rfl] at ld1
      rw [List.drop_eq_getElem_cons hlt, List.any_cons] at hok
      have w : IntKind.i64.wrap ((i : Int) + 1) = ((i + 1 : Nat) : Int) := by rw [wrap_i64 (by omega) (by omega)]; rfl
      by_cases hb : 200 < ws[i].text.length
      · have t1 : ((200 : Int) < (ws[i].text.length : Int)) = True := eq_true (by omega)
        simp +contextual only [r0, r1, r5, g0, H.len, ia1, ld1, t1, ↓wA, wB, wZ, repeatV, RX.evs, spl, over, ones, Ex.ends, evR, oneOf, top, ↓reduceIte, Nat.reduceEqDiff, Nat.reduceLeDiff, Nat.reduceAdd, Nat.reduceSub, Nat.reduceMul, reduceCtorEq, Int.reduceEq, Int.reduceLT, Int.reduceLE, Int.reduceNeg, Int.reduceAdd, Int.reduceSub]
        rw [hok, decide_eq_true hb]
        simp
      · have t1 : ((200 : Int) < (ws[i].text.length : Int)) = False := eq_false (by omega)
        simp +contextual only [r0, r1, r5, g0, H.len, ia1, ld1, t1, w, ↓wA, wB, wZ, repeatV, RX.evs, spl, over, ones, Ex.ends, evR, oneOf, top, ↓reduceIte, Nat.reduceEqDiff, Nat.reduceLeDiff, Nat.reduceAdd, Nat.reduceSub, Nat.reduceMul, reduceCtorEq, Int.reduceEq, Int.reduceLT, Int.reduceLE, Int.reduceNeg, Int.reduceAdd, Int.reduceSub]
        exact ⟨⟨i + 1, rfl, hlt, by rw [hok, decide_eq_false hb, Bool.false_or]⟩, by omega⟩
    · have g0 : ((i : Int) < (ws.length : Int)) = False := eq_false (by omega)
      rw [List.drop_eq_nil_of_le (by omega)] at hok
      have hd : ((200 : Int) < (ws.length : Int)) = (200 < ws.length) := propext ⟨fun q => by omega, fun q => by omega⟩
      simp +contextual only [r0, r1, r5, g0, H.len, hd, ↓wA, wB, wZ, repeatV, RX.evs, spl, over, ones, Ex.ends, evR, oneOf, top, ↓reduceIte, Nat.reduceEqDiff, Nat.reduceLeDiff, Nat.reduceAdd, Nat.reduceSub, Nat.reduceMul, reduceCtorEq, Int.reduceEq, Int.reduceLT, Int.reduceLE, Int.reduceNeg, Int.reduceAdd, Int.reduceSub]
      rw [hok]
      simp

theorem small_of {ws : List Wi} (h : largeM ws = false) : ws.length ≤ 200 ∧ ∀ w ∈ ws, w.text.length ≤ 200 := by
  unfold largeM at h
  rw [Bool.or_eq_false_iff, List.any_eq_false, decide_eq_false_iff_not] at h
  refine ⟨by omega, fun w hw => ?_⟩
  have := h.1 w hw
  simp only [decide_eq_true_eq] at this
  omega

end Go.Proofs.YthcgccnbhdociaaDoor

namespace Go.Proofs.YthcgccnbhdociaaDoor
open Go Am
set_option linter.unusedSectionVars false
set_option linter.unusedSimpArgs false
set_option linter.unusedVariables false

/-! The chapter's examples. -/
def kText1 : List UInt8 := [108, 101, 116, 32, 120, 32, 61, 32, 34, 97, 92, 110, 34, 32, 40, 42, 32, 40, 42, 32, 42, 41, 32, 42, 41, 32, 105, 110, 32, 120]
def kWords1 : List Wd := [⟨6, 0, 0, [108, 101, 116]⟩, ⟨3, 0, 4, [120]⟩, ⟨7, 0, 6, [61]⟩, ⟨2, 0, 8, [97, 10]⟩, ⟨6, 0, 26, [105, 110]⟩, ⟨3, 0, 29, [120]⟩]
theorem known1 : lexM kText1 = .ok kWords1 := by kernel_rfl
theorem known1' : lexEq kText1 kWords1 = true := by unfold lexEq; rw [known1]; rfl
theorem known2 : lexM [50, 49, 52, 55, 52, 56, 51, 54, 52, 55] = .ok [⟨1, -1, 0, []⟩] := by kernel_rfl
theorem known2' : lexEq [50, 49, 52, 55, 52, 56, 51, 54, 52, 55] [⟨1, -1, 0, []⟩] = true := by unfold lexEq; rw [known2]; rfl
theorem known3 : lexM [50, 49, 52, 55, 52, 56, 51, 54, 52, 56] = .error (254, 0) := by kernel_rfl
theorem known4 : lexM [34, 97] = .error (252, 0) := by kernel_rfl
theorem known5 : lexM [40, 42, 32, 97] = .error (253, 0) := by kernel_rfl
theorem known6 : lexM [34, 92, 57, 34] = .error (252, 0) := by kernel_rfl
theorem known7 : rightM [97, 195, 169, 255] = 3 := by kernel_rfl
theorem known8 : rightM [237, 160, 128] = 0 := by kernel_rfl
theorem itoa_big : Lib.itoa 2147483647 = [50, 49, 52, 55, 52, 56, 51, 54, 52, 55] := by
  have : Lib.itoa ((2147483647 : Nat) : Int) = Lib.decDigits 2147483647 := Lib.itoa_nonneg _
  rw [show (2147483647 : Int) = ((2147483647 : Nat) : Int) from rfl, this]
  simp [Lib.decDigits]
theorem known9 : writeM [⟨2, 0, 0, [195, 169]⟩, ⟨1, -1, 0, []⟩] = ([34, 92, 49, 57, 53, 92, 49, 54, 57, 34, 32, 50, 49, 52, 55, 52, 56, 51, 54, 52, 55], 0) := by
  have h1 : Wi.out ⟨1, -1, 0, []⟩ = [50, 49, 52, 55, 52, 56, 51, 54, 52, 55] := by
    unfold Wi.out writtenM
    rw [if_pos rfl, if_pos (by decide), show (-1 + 2147483648 : Int) = 2147483647 from by decide]
    exact itoa_big
  have h2 : Wi.out ⟨2, 0, 0, [195, 169]⟩ = [34, 92, 49, 57, 53, 92, 49, 54, 57, 34] := by decide
  unfold writeM
  have m1 : Wi.may ⟨1, -1, 0, []⟩ = true := by show mayM 1 (-1) [] = true; rw [mayM1]; simp
  have m2 : Wi.may ⟨2, 0, 0, [195, 169]⟩ = true := by show mayM 2 0 [195, 169] = true; rw [mayM2]; simp
  rw [if_pos (by simp only [List.all_cons, List.all_nil, m1, m2, Bool.and_true]), List.map_cons, List.map_cons, List.map_nil, h1, h2]
  rfl
theorem conv_new (l : List UInt8) (h : Heap) (hl : l.length ≤ top) : convStr.run (.slice (pa h.next) 0 l.length l.length) (h.new (.ofL (bytesV l) 0 false)) = .val (.str l) (h.new (.ofL (bytesV l) 0 false)) :=
  convStr_own (B := 0) ⟨by rw [bytesV_len, Nat.mul_one], rfl, Nat.zero_le _, old_lt (by rw [next_new]; omega), Nat.le_refl _, hl, _, 0, false, get_new_self _, by rw [bytesV_len]; omega, by simp⟩

theorem known_ctr (h : Heap) : Ctr Tryd.prog 7 [] h fun x h' => x = .bool true ∧ Ext h h' := by
  refine c7_ctr rfl (wpK_of ?_)
  unfold c7
  simp +contextual only [↓wA, wB, wZ, repeatV, RX.evs, spl, over, ones, Ex.ends, evR, oneOf, top, ↓reduceIte, Nat.reduceEqDiff, Nat.reduceLeDiff, Nat.reduceAdd, Nat.reduceSub, Nat.reduceMul, reduceCtorEq, Int.reduceEq, Int.reduceLT, Int.reduceLE, Int.reduceNeg, Int.reduceAdd, Int.reduceSub]
  have n0 : (((0 : Nat) : Int) = 0) = True := eq_true rfl
  have hx0 : Ext h (h.new (.ofL (wdsV kWords1) 0 false)) := (Ext.refl h).new _
  refine callK_intro (has_ctr kText1 _ kWords1 (h.new (.ofL (wdsV kWords1) 0 false)) ⟨rfl, rfl, old_lt (by rw [next_new]; omega), _, .inr ⟨0, false, by rw [get_new_self]⟩, by decide, rfl⟩) ?_
  rintro x h1 ⟨rfl, hx1⟩
  rw [known1']
  have hy1 := hx0.trans hx1
  simp +contextual only [↓wA, wB, wZ, repeatV, RX.evs, spl, over, ones, Ex.ends, evR, oneOf, top, ↓reduceIte, Nat.reduceEqDiff, Nat.reduceLeDiff, Nat.reduceAdd, Nat.reduceSub, Nat.reduceMul, reduceCtorEq, Int.reduceEq, Int.reduceLT, Int.reduceLE, Int.reduceNeg, Int.reduceAdd, Int.reduceSub]
  have hx2 : Ext h1 (h1.new (.ofL (wdsV [⟨1, -1, 0, []⟩]) 0 false)) := (Ext.refl h1).new _
  refine callK_intro (has_ctr [50, 49, 52, 55, 52, 56, 51, 54, 52, 55] _ [⟨1, -1, 0, []⟩] (h1.new (.ofL (wdsV [⟨1, -1, 0, []⟩]) 0 false)) ⟨rfl, rfl, old_lt (by rw [next_new]; omega), _, .inr ⟨0, false, by rw [get_new_self]⟩, by decide, rfl⟩) ?_
  rintro x h2 ⟨rfl, hx3⟩
  rw [known2']
  have hy2 := (hy1.trans hx2).trans hx3
  simp +contextual only [↓wA, wB, wZ, repeatV, RX.evs, spl, over, ones, Ex.ends, evR, oneOf, top, ↓reduceIte, Nat.reduceEqDiff, Nat.reduceLeDiff, Nat.reduceAdd, Nat.reduceSub, Nat.reduceMul, reduceCtorEq, Int.reduceEq, Int.reduceLT, Int.reduceLE, Int.reduceNeg, Int.reduceAdd, Int.reduceSub]
  refine callK_intro (faulty_ctr _ _ _ _) ?_
  rintro x h3 ⟨rfl, hx4⟩
  rw [known3]
  have hy3 := hy2.trans hx4
  simp +contextual only [n0, ↓wA, wB, wZ, repeatV, RX.evs, spl, over, ones, Ex.ends, evR, oneOf, top, ↓reduceIte, Nat.reduceEqDiff, Nat.reduceLeDiff, Nat.reduceAdd, Nat.reduceSub, Nat.reduceMul, reduceCtorEq, Int.reduceEq, Int.reduceLT, Int.reduceLE, Int.reduceNeg, Int.reduceAdd, Int.reduceSub]
  refine callK_intro (faulty_ctr _ _ _ _) ?_
  rintro x h4 ⟨rfl, hx5⟩
  rw [known4]
  have hy4 := hy3.trans hx5
  simp +contextual only [n0, ↓wA, wB, wZ, repeatV, RX.evs, spl, over, ones, Ex.ends, evR, oneOf, top, ↓reduceIte, Nat.reduceEqDiff, Nat.reduceLeDiff, Nat.reduceAdd, Nat.reduceSub, Nat.reduceMul, reduceCtorEq, Int.reduceEq, Int.reduceLT, Int.reduceLE, Int.reduceNeg, Int.reduceAdd, Int.reduceSub]
  refine callK_intro (faulty_ctr _ _ _ _) ?_
  rintro x h5 ⟨rfl, hx6⟩
  rw [known5]
  have hy5 := hy4.trans hx6
  simp +contextual only [n0, ↓wA, wB, wZ, repeatV, RX.evs, spl, over, ones, Ex.ends, evR, oneOf, top, ↓reduceIte, Nat.reduceEqDiff, Nat.reduceLeDiff, Nat.reduceAdd, Nat.reduceSub, Nat.reduceMul, reduceCtorEq, Int.reduceEq, Int.reduceLT, Int.reduceLE, Int.reduceNeg, Int.reduceAdd, Int.reduceSub]
  refine callK_intro (faulty_ctr _ _ _ _) ?_
  rintro x h6 ⟨rfl, hx7⟩
  rw [known6]
  have hy6 := hy5.trans hx7
  have cv1 : convStr.run (.slice (pa h6.next) 0 4 4) (h6.new (.ofL [.int .u8 97, .int .u8 195, .int .u8 169, .int .u8 255] 0 false)) = .val (.str [97, 195, 169, 255]) (h6.new (.ofL [.int .u8 97, .int .u8 195, .int .u8 169, .int .u8 255] 0 false)) := conv_new [97, 195, 169, 255] h6 (by decide)
  simp +contextual only [n0, cv1, ↓wA, wB, wZ, repeatV, RX.evs, spl, over, ones, Ex.ends, evR, oneOf, top, ↓reduceIte, Nat.reduceEqDiff, Nat.reduceLeDiff, Nat.reduceAdd, Nat.reduceSub, Nat.reduceMul, reduceCtorEq, Int.reduceEq, Int.reduceLT, Int.reduceLE, Int.reduceNeg, Int.reduceAdd, Int.reduceSub]
  have hx8 : Ext h6 (h6.new (.ofL [.int .u8 97, .int .u8 195, .int .u8 169, .int .u8 255] 0 false)) := (Ext.refl h6).new _
  generalize h6.new (.ofL [.int .u8 97, .int .u8 195, .int .u8 169, .int .u8 255] 0 false) = h7 at *
  refine callK_intro (right_ctr _ (by decide) _) ?_
  rintro x h8 ⟨rfl, hx9⟩
  rw [known7]
  have hy8 := (hy6.trans hx8).trans hx9
  have cv2 : convStr.run (.slice (pa h8.next) 0 3 3) (h8.new (.ofL [.int .u8 237, .int .u8 160, .int .u8 128] 0 false)) = .val (.str [237, 160, 128]) (h8.new (.ofL [.int .u8 237, .int .u8 160, .int .u8 128] 0 false)) := conv_new [237, 160, 128] h8 (by decide)
  have n3 : (((3 : Nat) : Int) = 3) = True := eq_true rfl
  simp +contextual only [n3, cv2, ↓wA, wB, wZ, repeatV, RX.evs, spl, over, ones, Ex.ends, evR, oneOf, top, ↓reduceIte, Nat.reduceEqDiff, Nat.reduceLeDiff, Nat.reduceAdd, Nat.reduceSub, Nat.reduceMul, reduceCtorEq, Int.reduceEq, Int.reduceLT, Int.reduceLE, Int.reduceNeg, Int.reduceAdd, Int.reduceSub]
  have hx10 : Ext h8 (h8.new (.ofL [.int .u8 237, .int .u8 160, .int .u8 128] 0 false)) := (Ext.refl h8).new _
  generalize h8.new (.ofL [.int .u8 237, .int .u8 160, .int .u8 128] 0 false) = h9 at *
  refine callK_intro (right_ctr _ (by decide) _) ?_
  rintro x h10 ⟨rfl, hx11⟩
  rw [known8]
  have hy10 := (hy8.trans hx10).trans hx11
  have cv3 : convStr.run (.slice (pa h10.next) 0 2 2) (h10.new (.ofL [.int .u8 195, .int .u8 169] 0 false)) = .val (.str [195, 169]) (h10.new (.ofL [.int .u8 195, .int .u8 169] 0 false)) := conv_new [195, 169] h10 (by decide)
  simp +contextual only [n0, cv3, ↓wA, wB, wZ, repeatV, RX.evs, spl, over, ones, Ex.ends, evR, oneOf, top, ↓reduceIte, Nat.reduceEqDiff, Nat.reduceLeDiff, Nat.reduceAdd, Nat.reduceSub, Nat.reduceMul, reduceCtorEq, Int.reduceEq, Int.reduceLT, Int.reduceLE, Int.reduceNeg, Int.reduceAdd, Int.reduceSub]
  have hx12 : Ext h10 (h10.new (.ofL [.int .u8 195, .int .u8 169] 0 false)) := (Ext.refl h10).new _
  have hn11 : (h10.new (.ofL [.int .u8 195, .int .u8 169] 0 false)).next = h10.next + 1 := next_new _ _
  generalize h10.new (.ofL [.int .u8 195, .int .u8 169] 0 false) = h11 at *
  have hx13 : Ext h11 (h11.new (.ofL (wisV [⟨2, 0, 0, [195, 169]⟩, ⟨1, -1, 0, []⟩]) 0 false)) := (Ext.refl h11).new _
  refine callK_intro (write_ctr _ [⟨2, 0, 0, [195, 169]⟩, ⟨1, -1, 0, []⟩] (h11.new (.ofL (wisV [⟨2, 0, 0, [195, 169]⟩, ⟨1, -1, 0, []⟩]) 0 false)) ⟨rfl, rfl, old_lt (by rw [next_new]; omega), _, .inr ⟨0, false, by first | rw [get_new_self] | (rw [← hn11, get_new_self])⟩, by decide, rfl⟩ (by decide) (by decide)) ?_
  rintro x h12 ⟨rfl, hx14⟩
  rw [known9]
  have hy12 := ((hy10.trans hx12).trans hx13).trans hx14
  simp +contextual only [↓wA, wB, wZ, repeatV, RX.evs, spl, over, ones, Ex.ends, evR, oneOf, top, ↓reduceIte, Nat.reduceEqDiff, Nat.reduceLeDiff, Nat.reduceAdd, Nat.reduceSub, Nat.reduceMul, reduceCtorEq, Int.reduceEq, Int.reduceLT, Int.reduceLE, Int.reduceNeg, Int.reduceAdd, Int.reduceSub]
  refine callK_intro (awake_ctr _) ?_
  rintro x h13 ⟨rfl, hx15⟩
  have hy13 := hy12.trans hx15
  simp +contextual only [↓wA, wB, wZ, repeatV, RX.evs, spl, over, ones, Ex.ends, evR, oneOf, top, ↓reduceIte, Nat.reduceEqDiff, Nat.reduceLeDiff, Nat.reduceAdd, Nat.reduceSub, Nat.reduceMul, reduceCtorEq, Int.reduceEq, Int.reduceLT, Int.reduceLE, Int.reduceNeg, Int.reduceAdd, Int.reduceSub]
  exact hy13
end Go.Proofs.YthcgccnbhdociaaDoor

namespace Go.Proofs.YthcgccnbhdociaaDoor
open Go Am
set_option linter.unusedSectionVars false
set_option linter.unusedSimpArgs false
set_option linter.unusedVariables false

/-! What is written is read: the plain law. -/
/-- what stands behind a word: nothing, or a blank -/
def Behind (r : List UInt8) : Prop := r = [] ∨ ∃ t, r = 32 :: t
theorem takeWhile_all {p : UInt8 → Bool} {r : List UInt8} (hr : Behind r) (hp : p 32 = false) : ∀ s : List UInt8, s.all p = true → (s ++ r).takeWhile p = s
  | [], _ => by
    rcases hr with rfl | ⟨t, rfl⟩
    · rfl
    · rw [List.nil_append, List.takeWhile_cons, hp]
      rfl
  | c :: s, h => by
    rw [List.all_cons, Bool.and_eq_true] at h
    rw [List.cons_append, List.takeWhile_cons, h.1, if_pos rfl, takeWhile_all hr hp s h.2]

/-! numbers -/
theorem dig_ofNat {d : Nat} (h : d < 10) : dig (UInt8.ofNat (48 + d)) = true ∧ (UInt8.ofNat (48 + d)).toNat - 48 = d := by
  revert d
  decide
theorem fv_snoc (c : UInt8) : ∀ (l : List UInt8) (a : Nat), fv a (l ++ [c]) = 10 * fv a l + (c.toNat - 48)
  | [], a => by rw [List.nil_append, fv_cons]; rfl
  | d :: l, a => by rw [List.cons_append, fv_cons, fv_snoc c l, fv_cons]
theorem dec_read (u : Nat) : (Lib.decDigits u).all dig = true ∧ valM (Lib.decDigits u) = u ∧ Lib.decDigits u ≠ [] := by
  induction u using Nat.strongRecOn with
  | _ u ih =>
    rw [Lib.decDigits]
    by_cases h : u < 10
    · rw [dif_pos h]
      obtain ⟨d1, d2⟩ := dig_ofNat h
      refine ⟨by rw [List.all_cons, d1]; rfl, ?_, by simp⟩
      show fv 0 [UInt8.ofNat (48 + u)] = u
      rw [fv_cons]
      show 10 * 0 + _ = u
      omega
    · rw [dif_neg h]
      obtain ⟨g1, g2, g3⟩ := ih (u / 10) (by omega)
      obtain ⟨d1, d2⟩ := dig_ofNat (show u % 10 < 10 by omega)
      refine ⟨by rw [List.all_append, g1, List.all_cons, d1]; rfl, ?_, by simp⟩
      show fv 0 (Lib.decDigits (u / 10) ++ [UInt8.ofNat (48 + u % 10)]) = u
      rw [fv_snoc]
      have : fv 0 (Lib.decDigits (u / 10)) = u / 10 := g2
      rw [this]
      omega
theorem dig32 : dig 32 = false := by decide
theorem ltr32 : ltr 32 = false := by decide

/-- a word's text in front of the rest: read as just that word -/
def Reads (out : List UInt8) (k n : Int) (s : List UInt8) (r : List UInt8) : Prop :=
  (∃ c t, out = c :: t ∧ blank c = false ∧ ([40, 42] : List UInt8).isPrefixOf (c :: (t ++ r)) = false) ∧ nextM (out ++ r) = .ok (k, n, s, out.length)

theorem dig_not {c : UInt8} (h : dig c = true) : blank c = false ∧ c ≠ 40 := by
  constructor
  · cases hb : blank c with
    | false => rfl
    | true =>
      unfold blank at hb
      simp only [Bool.or_eq_true, decide_eq_true_eq] at hb
      rcases hb with ((rfl | rfl) | rfl) | rfl <;> exact absurd h (by decide)
  · rintro rfl
    exact absurd h (by decide)
theorem ltr_not {c : UInt8} (h : ltr c = true) : blank c = false ∧ c ≠ 40 := by
  constructor
  · cases hb : blank c with
    | false => rfl
    | true =>
      unfold blank at hb
      simp only [Bool.or_eq_true, decide_eq_true_eq] at hb
      rcases hb with ((rfl | rfl) | rfl) | rfl <;> exact absurd h (by decide)
  · rintro rfl
    exact absurd h (by decide)
theorem no_note {c : UInt8} (h : c ≠ 40) (r : List UInt8) : ([40, 42] : List UInt8).isPrefixOf (c :: r) = false := by
  have : ((40 : UInt8) == c) = false := by rw [beq_eq_false_iff_ne]; exact fun q => h q.symm
  simp [List.isPrefixOf, this]

theorem read_int {n : Int} {r : List UInt8} (h0 : -1073741824 ≤ n) (h1 : n ≤ 1073741823) (hr : Behind r) : Reads (Lib.itoa (if n < 0 then n + 2147483648 else n)) 1 n [] r := by
  obtain ⟨u, hu⟩ : ∃ u : Nat, (if n < 0 then n + 2147483648 else n) = u := ⟨(if n < 0 then n + 2147483648 else n).toNat, by split <;> omega⟩
  rw [hu, Lib.itoa_nonneg]
  obtain ⟨d1, d2, d3⟩ := dec_read u
  obtain ⟨c, t, hct⟩ := List.exists_cons_of_ne_nil d3
  have hc : dig c = true := by rw [hct, List.all_cons, Bool.and_eq_true] at d1; exact d1.1
  obtain ⟨b1, b2⟩ := dig_not hc
  refine ⟨⟨c, t, hct, b1, no_note b2 _⟩, ?_⟩
  have htk := takeWhile_all hr dig32 _ d1
  rw [hct] at htk ⊢
  rw [List.cons_append] at htk ⊢
  simp only [nextM, hc, if_true]
  unfold numM
  simp only [htk]
  rw [← hct, d2, if_neg (by split at hu <;> omega)]
  have : (if 1073741823 < (u : Int) then (u : Int) - 2147483648 else (u : Int)) = n := by split at hu <;> split <;> omega
  rw [this]

theorem esc_quote (r : List UInt8) : escM (34 :: r) = some (34, 1) := by rw [escM_cons]; rfl
theorem esc_back (r : List UInt8) : escM (92 :: r) = some (92, 1) := by rw [escM_cons]; rfl
theorem dig3 {d : Nat} (h : d < 10) : dig ((48 + d).toUInt8) = true ∧ ((48 + d).toUInt8).toNat - 48 = d ∧ (48 + d).toUInt8 ≠ 110 ∧ (48 + d).toUInt8 ≠ 116 ∧ (48 + d).toUInt8 ≠ 34 ∧ (48 + d).toUInt8 ≠ 92 := by
  revert d
  decide
theorem esc_three (c : UInt8) (r : List UInt8) : escM ((48 + c.toNat / 100).toUInt8 :: (48 + c.toNat / 10 % 10).toUInt8 :: (48 + c.toNat % 10).toUInt8 :: r) = some (c, 3) := by
  have hc := c.toNat_lt
  obtain ⟨a1, a2, a3, a4, a5, a6⟩ := dig3 (show c.toNat / 100 < 10 by omega)
  obtain ⟨b1, b2, _⟩ := dig3 (show c.toNat / 10 % 10 < 10 by omega)
  obtain ⟨e1, e2, _⟩ := dig3 (show c.toNat % 10 < 10 by omega)
  have hv : valM ((48 + c.toNat / 100).toUInt8 :: (((48 + c.toNat / 10 % 10).toUInt8 :: (48 + c.toNat % 10).toUInt8 :: r).take 2)) = c.toNat := by
    show fv 0 [_, _, _] = _
    rw [fv_cons, fv_cons, fv_cons, a2, b2, e2]
    show 10 * (10 * (10 * 0 + _) + _) + _ = _
    omega
  rw [escM_cons, if_neg a3, if_neg a4, if_neg a5, if_neg a6]
  rw [hv, if_pos ⟨by simp, a1, by simpa using b1, by simpa using e1, hc⟩]
  simp
theorem text_one (c : UInt8) (R : List UInt8) : textM (qb c ++ R) = (textM R).map fun q => (c :: q.1, q.2 + (qb c).length) := by
  unfold qb
  split
  · rename_i h
    rw [List.cons_append, textM_cons, if_neg (by decide), if_pos rfl]
    rcases h with rfl | rfl
    · rw [List.cons_append, esc_quote]; rfl
    · rw [List.cons_append, esc_back]; rfl
  · rename_i h
    split
    · rename_i h2
      rw [List.cons_append, textM_cons, if_neg (by decide), if_pos rfl, List.cons_append, List.cons_append, List.cons_append, List.nil_append, esc_three]
      rfl
    · rename_i h2
      have n34 : ¬ c = 34 := fun q => h (.inl q)
      have n92 : ¬ c = 92 := fun q => h (.inr q)
      have hlo : ¬ (c < 32 ∨ c = 127) := by
        rintro (q | q)
        · rw [UInt8.lt_iff_toNat_lt] at q
          exact h2 (.inl q)
        · subst q
          exact h2 (.inr (by decide))
      rw [List.cons_append, List.nil_append, textM_cons, if_neg n34, if_neg n92, if_neg hlo]
      rfl
theorem text_all (r : List UInt8) : ∀ s : List UInt8, textM (s.flatMap qb ++ 34 :: r) = some (s, (s.flatMap qb).length + 1)
  | [] => by
    rw [List.flatMap_nil, List.nil_append, textM_cons, if_pos rfl]
    rfl
  | c :: s => by
    rw [List.flatMap_cons, List.append_assoc, text_one, text_all r s, List.length_append]
    simp only [Option.map_some, Option.some.injEq, Prod.mk.injEq, true_and]
    omega
theorem read_text {s r : List UInt8} (hs : s.length ≤ 4096) : Reads (quotedM s) 2 0 s r := by
  refine ⟨⟨34, s.flatMap qb ++ [34], rfl, by decide, no_note (by decide) _⟩, ?_⟩
  unfold quotedM
  have : (34 :: (s.flatMap qb ++ [34])) ++ r = 34 :: (s.flatMap qb ++ 34 :: r) := by simp
  rw [this]
  simp only [nextM]
  rw [if_neg (by decide), if_pos trivial]
  unfold strM
  rw [text_all r s]
  simp only
  rw [if_neg (by omega)]
  simp
theorem read_name {k : Int} {s r : List UInt8} (h1 : s ≠ []) (hl : s.length ≤ 64) (ha : s.all ltr = true) (hr : Behind r) (hk : k = 3 → s ≠ [95] ∧ keyB s = false) : nameM k (s ++ r) = .ok (k, 0, s, s.length) := by
  unfold nameM
  simp only [takeWhile_all hr ltr32 s ha]
  rw [if_neg (fun q => (hk q.1).1 q.2), if_neg (fun q => by rw [(hk q.1).2] at q; simp at q), if_neg (by omega)]
theorem small_not {c : UInt8} (h : smallB c.toNat = true) : dig c = false ∧ c ≠ 34 := by
  unfold smallB at h
  simp only [Bool.and_eq_true, decide_eq_true_eq] at h
  refine ⟨?_, by rintro rfl; exact absurd h (by decide)⟩
  unfold dig digitB
  simp only [Bool.and_eq_false_iff, decide_eq_false_iff_not]
  omega
theorem great_not {c : UInt8} (h : greatB c.toNat = true) : dig c = false ∧ c ≠ 34 ∧ smallB c.toNat = false ∧ c ≠ 95 := by
  unfold greatB at h
  simp only [Bool.and_eq_true, decide_eq_true_eq] at h
  refine ⟨?_, by rintro rfl; exact absurd h (by decide), ?_, by rintro rfl; exact absurd h (by decide)⟩
  · unfold dig digitB
    simp only [Bool.and_eq_false_iff, decide_eq_false_iff_not]
    omega
  · unfold smallB
    simp only [Bool.and_eq_false_iff, decide_eq_false_iff_not]
    omega
theorem named_open {k : Int} {s : List UInt8} (h : namedM k s = true) : s ≠ [] ∧ s.length ≤ 64 ∧ s.all ltr = true ∧ (if k = 3 then (headSmall s || s.head? == some 95) && !decide (s = [95]) && !keyB s else if k = 4 then headGreat s else headSmall s) = true := by
  unfold namedM at h
  rw [Bool.and_eq_true, Bool.and_eq_true, Bool.and_eq_true, decide_eq_true_eq, decide_eq_true_eq] at h
  exact ⟨h.1.1.1, h.1.1.2, h.1.2, h.2⟩
theorem next_small {c : UInt8} {t : List UInt8} (h : smallB c.toNat = true ∨ c = 95) : nextM (c :: t) = nameM 3 (c :: t) := by
  have hd : dig c = false := h.elim (fun q => (small_not q).1) (fun q => by rw [q]; decide)
  have h34 : c ≠ 34 := h.elim (fun q => (small_not q).2) (fun q => by rw [q]; decide)
  have hs : (smallB c.toNat || decide (c = 95)) = true := by simpa using h
  simp only [nextM, hd, hs, if_neg h34, Bool.false_eq_true, if_false, if_true]
theorem read_word (w : Wi) (hw : w.may = true) (r : List UInt8) (hr : Behind r) : Reads w.out w.kind w.num w.text r := by
  obtain ⟨k, n, p, s⟩ := w
  have hm : mayM k n s = true := hw
  show Reads (writtenM k n s) k n s r
  by_cases h1 : k = 1
  · subst h1
    rw [mayM1] at hm
    simp only [Bool.and_eq_true, decide_eq_true_eq] at hm
    obtain ⟨⟨rfl, m1⟩, m2⟩ := hm
    exact read_int m1 m2 hr
  by_cases h2 : k = 2
  · subst h2
    rw [mayM2] at hm
    simp only [Bool.and_eq_true, decide_eq_true_eq] at hm
    obtain ⟨rfl, m1⟩ := hm
    exact read_text m1
  by_cases h3 : k = 3
  · subst h3
    rw [mayM3] at hm
    simp only [Bool.and_eq_true, decide_eq_true_eq] at hm
    obtain ⟨rfl, m1⟩ := hm
    obtain ⟨g1, g2, g3, g4⟩ := named_open m1
    rw [if_pos rfl] at g4
    simp only [Bool.and_eq_true, Bool.not_eq_true', decide_eq_false_iff_not, Bool.or_eq_true, beq_iff_eq] at g4
    obtain ⟨c, t, rfl⟩ := List.exists_cons_of_ne_nil g1
    have hh : smallB c.toNat = true ∨ c = 95 := g4.1.1.imp id (fun q => Option.some.inj q)
    have hl : ltr c = true := hh.elim small_ltr under_ltr
    obtain ⟨b1, b2⟩ := ltr_not hl
    refine ⟨⟨c, t, rfl, b1, no_note b2 _⟩, ?_⟩
    show nextM (c :: (t ++ r)) = _
    rw [next_small hh]
    exact read_name g1 g2 g3 hr (fun _ => ⟨g4.1.2, g4.2⟩)
  by_cases h4 : k = 4
  · subst h4
    rw [mayM4] at hm
    simp only [Bool.and_eq_true, decide_eq_true_eq] at hm
    obtain ⟨rfl, m1⟩ := hm
    obtain ⟨g1, g2, g3, g4⟩ := named_open m1
    rw [if_neg (by decide), if_pos rfl] at g4
    obtain ⟨c, t, rfl⟩ := List.exists_cons_of_ne_nil g1
    have hg : greatB c.toNat = true := g4
    obtain ⟨n1, n2, n3, n4⟩ := great_not hg
    obtain ⟨b1, b2⟩ := ltr_not (great_ltr hg)
    refine ⟨⟨c, t, rfl, b1, no_note b2 _⟩, ?_⟩
    show nextM (c :: (t ++ r)) = _
    simp only [nextM, n1, n3, hg, if_neg n2, Bool.false_eq_true, if_false, if_true, Bool.false_or, decide_eq_true_eq, if_neg n4]
    exact read_name g1 g2 g3 hr (fun q => absurd q (by decide))
  by_cases h5 : k = 5
  · subst h5
    rw [mayM5] at hm
    simp only [Bool.and_eq_true, decide_eq_true_eq] at hm
    obtain ⟨rfl, m1⟩ := hm
    obtain ⟨g1, g2, g3, g4⟩ := named_open m1
    rw [if_neg (by decide), if_neg (by decide)] at g4
    refine ⟨⟨39, s, rfl, by decide, no_note (by decide) _⟩, ?_⟩
    show nextM (39 :: (s ++ r)) = _
    have hh : headSmall (s ++ r) = true := by
      obtain ⟨c, t, rfl⟩ := List.exists_cons_of_ne_nil g1
      exact g4
    rw [nextM_var, varM, if_pos hh, read_name g1 g2 g3 hr (fun q => absurd q (by decide))]
    rfl
  by_cases h6 : k = 6
  · subst h6
    rw [mayM6] at hm
    simp only [Bool.and_eq_true, decide_eq_true_eq] at hm
    obtain ⟨rfl, m1⟩ := hm
    have hin : s ∈ keyList := by unfold keyB at m1; simpa using m1
    have hall : s.all ltr = true := (show ∀ t ∈ keyList, t.all ltr = true by decide) s hin
    have hne : s ≠ [95] := (show ∀ t ∈ keyList, t ≠ [95] by decide) s hin
    have hn0 : s ≠ [] := (show ∀ t ∈ keyList, t ≠ [] by decide) s hin
    obtain ⟨c, t, rfl⟩ := List.exists_cons_of_ne_nil hn0
    have hh : smallB c.toNat = true := (key_head m1).1
    obtain ⟨b1, b2⟩ := ltr_not (small_ltr hh)
    refine ⟨⟨c, t, rfl, b1, no_note b2 _⟩, ?_⟩
    show nextM (c :: (t ++ r)) = _
    rw [next_small (.inl hh)]
    unfold nameM
    have htk := takeWhile_all hr ltr32 (c :: t) hall
    rw [List.cons_append] at htk
    simp only [htk]
    rw [if_neg (fun q => hne q.2), if_pos ⟨trivial, m1⟩]
    rfl
  by_cases h7 : k = 7
  · subst h7
    rw [mayM7] at hm
    simp only [Bool.and_eq_true, decide_eq_true_eq] at hm
    obtain ⟨rfl, m1⟩ := hm
    have hin : s ∈ signList := by simpa using m1
    have key : ∀ R, Behind R → ∀ t ∈ signList, Reads t 7 0 t R := by
      intro R hR t ht
      simp only [signList, List.mem_cons, List.not_mem_nil, or_false] at ht
      rcases hR with rfl | ⟨R', rfl⟩ <;> rcases ht with rfl | rfl | rfl | rfl | rfl | rfl | rfl | rfl | rfl | rfl | rfl | rfl | rfl | rfl | rfl | rfl | rfl <;>
        exact ⟨⟨_, _, rfl, by decide, by rfl⟩, by rfl⟩
    exact key r hr s hin
  · unfold mayM at hm
    simp [h1, h2, h3, h4, h5, h6, h7] at hm

/-! a row of words -/
def Same (ms : List Wd) (ws : List Wi) : Prop := ms.map (fun w => (w.kind, w.num, w.text)) = ws.map (fun w => (w.kind, w.num, w.text))
theorem lexR_word {out r : List UInt8} {k n : Int} {s : List UInt8} (h : Reads out k n s r) (p : Nat) : lexR (out ++ r) p = consOk ⟨k, n, p, s⟩ (lexR r (p + out.length)) := by
  obtain ⟨⟨c, t, rfl, h1, h2⟩, h3⟩ := h
  rw [List.cons_append] at h3 ⊢
  rw [lexR_cons, h1, if_neg Bool.false_ne_true, h2, if_neg Bool.false_ne_true, h3]
  simp only
  congr 1
  have : ((c :: (t ++ r)).drop (c :: t).length) = r := by
    rw [← List.cons_append, List.drop_left]
  rw [this]
theorem out_pos {w : Wi} (h : w.may = true) : 1 ≤ w.out.length := by
  obtain ⟨⟨c, t, e, _⟩, _⟩ := read_word w h [] (.inl rfl)
  rw [e]
  simp
theorem lex_join : ∀ (ws : List Wi) (p : Nat), ws.all Wi.may = true → ∃ ms, lexR (Lib.join (ws.map Wi.out) [32]) p = .ok ms ∧ Same ms ws ∧ ms.Pairwise (fun a b => a.pos < b.pos) ∧ ∀ m ∈ ms, p ≤ m.pos
  | [], p, _ => ⟨[], rfl, rfl, .nil, fun m h => by cases h⟩
  | [w], p, h => by
    rw [List.all_cons, Bool.and_eq_true] at h
    have := lexR_word (read_word w h.1 [] (.inl rfl)) p
    rw [List.append_nil] at this
    refine ⟨[⟨w.kind, w.num, p, w.text⟩], ?_, rfl, List.pairwise_singleton _ _, fun m hm => ?_⟩
    · rw [List.map_cons, List.map_nil, Lib.join_one, this]
      rfl
    · rw [List.mem_singleton] at hm
      rw [hm]
      exact Nat.le_refl _
  | w :: w2 :: ws, p, h => by
    rw [List.all_cons, Bool.and_eq_true] at h
    obtain ⟨ms, g1, g2, g3, g4⟩ := lex_join (w2 :: ws) (p + w.out.length + 1) h.2
    have hj : Lib.join ((w :: w2 :: ws).map Wi.out) [32] = w.out ++ 32 :: Lib.join ((w2 :: ws).map Wi.out) [32] := by
      rw [List.map_cons, List.map_cons, Lib.join_cons, Lib.join_cons]
      simp [Lib.joinTail]
    refine ⟨⟨w.kind, w.num, p, w.text⟩ :: ms, ?_, ?_, ?_, ?_⟩
    · rw [hj, lexR_word (read_word w h.1 _ (.inr ⟨_, rfl⟩)) p, lexR_cons, if_pos (by decide), g1]
      rfl
    · unfold Same at g2 ⊢
      rw [List.map_cons, List.map_cons, g2]
    · refine List.pairwise_cons.2 ⟨fun m hm => ?_, g3⟩
      have := g4 m hm
      have := out_pos h.1
      show p < m.pos
      omega
    · intro m hm
      rcases List.mem_cons.1 hm with rfl | hm
      · exact Nat.le_refl _
      · have := g4 m hm
        omega
end Go.Proofs.YthcgccnbhdociaaDoor

namespace Go.Proofs.YthcgccnbhdociaaDoor
open Go Am
set_option linter.unusedSectionVars false
set_option linter.unusedSimpArgs false
set_option linter.unusedVariables false

/-! What is read can be written: the plain law. -/
theorem ascii_ltr {c : UInt8} (h : ltr c = true) : c.toNat < 128 := by
  unfold ltr letterB digitB smallB greatB at h
  simp only [Bool.or_eq_true, Bool.and_eq_true, decide_eq_true_eq] at h
  omega
theorem ascii_dec (u : Nat) : ∀ c ∈ Lib.decDigits u, c.toNat < 128 := by
  intro c hc
  have := List.all_eq_true.1 (dec_read u).1 c hc
  unfold dig digitB at this
  simp only [Bool.and_eq_true, decide_eq_true_eq] at this
  omega
theorem toNat_small {d : Nat} (h : d < 10) : ((48 + d).toUInt8).toNat < 128 := by
  revert d
  decide
theorem ascii_qb (c : UInt8) : ∀ d ∈ qb c, d.toNat < 128 := by
  intro d hd
  have hc := c.toNat_lt
  unfold qb at hd
  split at hd
  · rename_i h
    simp only [List.mem_cons, List.not_mem_nil, or_false] at hd
    rcases hd with rfl | rfl
    · decide
    · rcases h with rfl | rfl <;> decide
  · split at hd
    · simp only [List.mem_cons, List.not_mem_nil, or_false] at hd
      rcases hd with rfl | rfl | rfl | rfl
      · decide
      · exact toNat_small (by omega)
      · exact toNat_small (by omega)
      · exact toNat_small (by omega)
    · simp only [List.mem_cons, List.not_mem_nil, or_false] at hd
      subst hd
      omega
theorem ascii_out {w : Wi} (h : w.may = true) : ∀ c ∈ w.out, c.toNat < 128 := by
  obtain ⟨k, n, p, s⟩ := w
  have hm : mayM k n s = true := h
  intro c hc
  have hc : c ∈ writtenM k n s := hc
  have nm : ∀ j, namedM j s = true → ∀ d ∈ s, d.toNat < 128 := fun j q d hd => ascii_ltr (List.all_eq_true.1 (named_open q).2.2.1 d hd)
  by_cases h1 : k = 1
  · subst h1
    rw [mayM1] at hm
    simp only [Bool.and_eq_true, decide_eq_true_eq] at hm
    have hc : c ∈ Lib.itoa (if n < 0 then n + 2147483648 else n) := hc
    obtain ⟨u, hu⟩ : ∃ u : Nat, (if n < 0 then n + 2147483648 else n) = u := ⟨(if n < 0 then n + 2147483648 else n).toNat, by split <;> omega⟩
    rw [hu, Lib.itoa_nonneg] at hc
    exact ascii_dec u c hc
  by_cases h2 : k = 2
  · subst h2
    have hc : c ∈ 34 :: (s.flatMap qb ++ [34]) := hc
    rw [List.mem_cons, List.mem_append, List.mem_flatMap, List.mem_singleton] at hc
    rcases hc with rfl | ⟨d, _, hd⟩ | rfl
    · decide
    · exact ascii_qb d c hd
    · decide
  by_cases h5 : k = 5
  · subst h5
    rw [mayM5] at hm
    simp only [Bool.and_eq_true, decide_eq_true_eq] at hm
    have hc : c ∈ 39 :: s := hc
    rcases List.mem_cons.1 hc with rfl | hc
    · decide
    · exact nm 5 hm.2 c hc
  have hs : writtenM k n s = s := by unfold writtenM; rw [if_neg h1, if_neg h2, if_neg h5]
  rw [hs] at hc
  by_cases h3 : k = 3
  · subst h3
    rw [mayM3] at hm
    simp only [Bool.and_eq_true, decide_eq_true_eq] at hm
    exact nm 3 hm.2 c hc
  by_cases h4 : k = 4
  · subst h4
    rw [mayM4] at hm
    simp only [Bool.and_eq_true, decide_eq_true_eq] at hm
    exact nm 4 hm.2 c hc
  by_cases h6 : k = 6
  · subst h6
    rw [mayM6] at hm
    simp only [Bool.and_eq_true, decide_eq_true_eq] at hm
    have hin : s ∈ keyList := by have := hm.2; unfold keyB at this; simpa using this
    exact (show ∀ t ∈ keyList, ∀ d ∈ t, d.toNat < 128 by decide) s hin c hc
  by_cases h7 : k = 7
  · subst h7
    rw [mayM7] at hm
    simp only [Bool.and_eq_true, decide_eq_true_eq] at hm
    have hin : s ∈ signList := by simpa using hm.2
    exact (show ∀ t ∈ signList, ∀ d ∈ t, d.toNat < 128 by decide) s hin c hc
  · unfold mayM at hm
    simp [h1, h2, h3, h4, h5, h6, h7] at hm
theorem mem_join {c : UInt8} : ∀ L : List (List UInt8), c ∈ Lib.join L [32] → c = 32 ∨ ∃ x ∈ L, c ∈ x
  | [], h => by simp [Lib.join_nil] at h
  | x :: L, h => by
    rw [Lib.join_cons, List.mem_append] at h
    rcases h with h | h
    · exact .inr ⟨x, List.mem_cons_self .., h⟩
    · unfold Lib.joinTail at h
      rw [List.mem_flatten] at h
      obtain ⟨y, hy, hc⟩ := h
      obtain ⟨z, hz, rfl⟩ := List.mem_map.1 hy
      rw [List.mem_append, List.mem_singleton] at hc
      rcases hc with hc | hc
      · exact .inl hc
      · exact .inr ⟨z, List.mem_cons_of_mem _ hz, hc⟩
/-- what is written is read -/
theorem read_back {ws : List Wi} (h : ws.all Wi.may = true) (hl : (Lib.join (ws.map Wi.out) [32]).length ≤ 65536) : ∃ ms, lexM (Lib.join (ws.map Wi.out) [32]) = .ok ms ∧ Same ms ws ∧ ms.Pairwise (fun a b => a.pos < b.pos) := by
  obtain ⟨ms, g1, g2, g3, _⟩ := lex_join ws 0 h
  refine ⟨ms, ?_, g2, g3⟩
  rw [lexM_ascii, if_neg (by omega), g1]
  intro c hc
  rcases mem_join _ hc with rfl | ⟨x, hx, hcx⟩
  · decide
  · obtain ⟨w, hw, rfl⟩ := List.mem_map.1 hx
    exact ascii_out (List.all_eq_true.1 h w hw) c hcx
theorem read_long {x : List UInt8} (h : 65536 < x.length) : lexM x = .error (3, 0) := by
  unfold lexM
  rw [if_pos h]

/-! what is read may be written -/
theorem note_le : ∀ {r : List UInt8} {d : Int} {n : Nat}, noteM r d = some n → n ≤ r.length
  | [], d, n, h => by simp [noteM] at h
  | [_], d, n, h => by simp [noteM] at h
  | x :: y :: r, d, n, h => by
    rw [noteM] at h
    split at h
    · cases hq : noteM r (d + 1) with
      | none => rw [hq] at h; cases h
      | some m => rw [hq] at h; cases h; have := note_le hq; simp only [List.length_cons]; omega
    · split at h
      · split at h
        · cases h; simp only [List.length_cons]; omega
        · cases hq : noteM r (d - 1) with
          | none => rw [hq] at h; cases h
          | some m => rw [hq] at h; cases h; have := note_le hq; simp only [List.length_cons]; omega
      · cases hq : noteM (y :: r) d with
        | none => rw [hq] at h; cases h
        | some m => rw [hq] at h; cases h; have := note_le hq; simp only [List.length_cons] at this ⊢; omega
theorem esc_le {r : List UInt8} {b : UInt8} {n : Nat} (h : escM r = some (b, n)) : n ≤ r.length ∧ 1 ≤ n := by
  match r, h with
  | c :: r, h =>
    rw [escM_cons] at h
    split at h
    · cases h; simp
    · split at h
      · cases h; simp
      · split at h
        · cases h; simp
        · split at h
          · cases h; simp
          · split at h
            · rename_i hq
              cases h
              simp only [List.length_cons]
              omega
            · cases h
theorem textF_le : ∀ (f : Nat) {r : List UInt8} {b : List UInt8} {n : Nat}, textF f r = some (b, n) → n ≤ r.length ∧ b.length + 1 ≤ n
  | 0, r, b, n, h => by simp [textF] at h
  | f + 1, [], b, n, h => by simp [textF] at h
  | f + 1, c :: r, b, n, h => by
    simp only [textF] at h
    split at h
    · cases h; simp
    · split at h
      · cases he : escM r with
        | none => rw [he] at h; cases h
        | some q =>
          obtain ⟨e, m⟩ := q
          rw [he] at h
          simp only at h
          obtain ⟨k1, k2⟩ := esc_le he
          cases ht : textF f (r.drop m) with
          | none => rw [ht] at h; cases h
          | some q =>
            rw [ht] at h
            obtain ⟨b', n'⟩ := q
            have := textF_le f ht
            rw [List.length_drop] at this
            simp only [Option.map_some, Option.some.injEq, Prod.mk.injEq] at h
            obtain ⟨rfl, rfl⟩ := h
            simp only [List.length_cons]
            omega
      · split at h
        · cases h
        · cases ht : textF f r with
          | none => rw [ht] at h; cases h
          | some q =>
            rw [ht] at h
            obtain ⟨b', n'⟩ := q
            have := textF_le f ht
            simp only [Option.map_some, Option.some.injEq, Prod.mk.injEq] at h
            obtain ⟨rfl, rfl⟩ := h
            simp only [List.length_cons]
            omega
theorem nDigits_le (k : Nat) : ∀ u : Nat, u < 10 ^ (k + 1) → Lib.nDigits u ≤ k + 1 := by
  induction k with
  | zero => intro u h; rw [Lib.nDigits_small (by simpa using h)]; omega
  | succ k ih =>
    intro u h
    by_cases h10 : u < 10
    · rw [Lib.nDigits_small h10]; omega
    · rw [Lib.nDigits_big h10]
      have := ih (u / 10) (by rw [Nat.pow_succ] at h; omega)
      omega
theorem tw_le (p : UInt8 → Bool) (l : List UInt8) : (l.takeWhile p).length ≤ l.length := take_while_len p l
theorem take_allB (p : UInt8 → Bool) : ∀ l : List UInt8, (l.takeWhile p).all p = true
  | [] => rfl
  | c :: l => by
    rw [List.takeWhile_cons]
    cases hc : p c with
    | true => rw [if_pos rfl, List.all_cons, hc, take_allB p l]; rfl
    | false => rfl
/-- a word that was read: it may be; its text is no longer than this; it was within -/
def Good (r : List UInt8) (q : Int × Int × List UInt8 × Nat) : Prop := mayM q.1 q.2.1 q.2.2.1 = true ∧ (writtenM q.1 q.2.1 q.2.2.1).length ≤ 10 * q.2.2.2 ∧ q.2.2.2 ≤ r.length
theorem nameM_good {k : Int} {c : UInt8} {r : List UInt8} {q : Int × Int × List UInt8 × Nat} (hk : (k = 3 ∧ (smallB c.toNat = true ∨ c = 95)) ∨ (k = 4 ∧ greatB c.toNat = true) ∨ (k = 5 ∧ smallB c.toNat = true)) (h : nameM k (c :: r) = .ok q) :
    mayM q.1 q.2.1 q.2.2.1 = true ∧ (writtenM q.1 q.2.1 q.2.2.1).length ≤ q.2.2.2 + 1 ∧ q.2.2.2 ≤ (c :: r).length ∧ 1 ≤ q.2.2.2 := by
  have hl : ltr c = true := by
    rcases hk with ⟨_, q | q⟩ | ⟨_, q⟩ | ⟨_, q⟩
    · exact small_ltr q
    · exact under_ltr q
    · exact great_ltr q
    · exact small_ltr q
  have ht : (c :: r).takeWhile ltr = c :: r.takeWhile ltr := by rw [List.takeWhile_cons, if_pos hl]
  have hle := tw_le ltr (c :: r)
  have ha := take_allB ltr (c :: r)
  rw [ht] at hle ha
  unfold nameM at h
  simp only [ht] at h
  generalize r.takeWhile ltr = t at *
  split at h
  · rename_i hq
    cases h
    rw [hq.2] at hle ⊢
    refine ⟨by decide, by decide, hle, by simp⟩
  · rename_i hq1
    split at h
    · rename_i hq
      cases h
      refine ⟨?_, ?_, hle, by simp⟩
      · show mayM 6 0 (c :: t) = true
        rw [mayM6, hq.2]
        rfl
      · show (writtenM 6 0 (c :: t)).length ≤ (c :: t).length + 1
        rw [show writtenM 6 0 (c :: t) = c :: t from rfl]
        omega
    · rename_i hq2
      split at h
      · cases h
      · rename_i hlen
        cases h
        have hnm : ∀ j, (if j = 3 then (headSmall (c :: t) || (c :: t).head? == some 95) && !decide (c :: t = [95]) && !keyB (c :: t) else if j = 4 then headGreat (c :: t) else headSmall (c :: t)) = true → namedM j (c :: t) = true := by
          intro j hj
          unfold namedM
          rw [hj, ha, decide_eq_true (show c :: t ≠ [] by simp), decide_eq_true (show (c :: t).length ≤ 64 by omega)]
          rfl
        rcases hk with ⟨rfl, g⟩ | ⟨rfl, g⟩ | ⟨rfl, g⟩
        · refine ⟨?_, Nat.le_succ _, hle, by simp⟩
          show mayM 3 0 (c :: t) = true
          rw [mayM3, hnm 3 ?_]
          · rfl
          · rw [if_pos rfl]
            have k1 : ¬ (c :: t = [95]) := fun q => hq1 ⟨rfl, q⟩
            have k2 : keyB (c :: t) = false := by
              cases hkb : keyB (c :: t) with
              | false => rfl
              | true => exact absurd ⟨rfl, hkb⟩ hq2
            have k3 : (headSmall (c :: t) || (c :: t).head? == some 95) = true := by
              show (smallB c.toNat || (some c == some 95)) = true
              rcases g with g | g
              · rw [g]; rfl
              · rw [g]; simp
            rw [k2, k3, decide_eq_false k1]
            rfl
        · refine ⟨?_, Nat.le_succ _, hle, by simp⟩
          show mayM 4 0 (c :: t) = true
          rw [mayM4, hnm 4 (by rw [if_neg (by decide), if_pos rfl]; exact g)]
          rfl
        · refine ⟨?_, Nat.le_refl _, hle, by simp⟩
          show mayM 5 0 (c :: t) = true
          rw [mayM5, hnm 5 (by rw [if_neg (by decide), if_neg (by decide)]; exact g)]
          rfl
theorem nextM_good {r : List UInt8} {q : Int × Int × List UInt8 × Nat} (h : nextM r = .ok q) : Good r q := by
  match r, h with
  | c :: r, h =>
    simp only [nextM] at h
    split at h
    · rename_i hd
      unfold numM at h
      simp only at h
      have hp : 1 ≤ ((c :: r).takeWhile dig).length := take_pos hd
      have hle := tw_le dig (c :: r)
      split at h
      · cases h
      · rename_i hv
        cases h
        generalize valM ((c :: r).takeWhile dig) = v at *
        refine ⟨?_, ?_, hle⟩
        · show mayM 1 (if 1073741823 < (v : Int) then (v : Int) - 2147483648 else v) [] = true
          rw [mayM1]
          simp only [decide_true, Bool.true_and, Bool.and_eq_true, decide_eq_true_eq]
          split <;> omega
        · show (Lib.itoa (if (if 1073741823 < (v : Int) then (v : Int) - 2147483648 else v) < 0 then (if 1073741823 < (v : Int) then (v : Int) - 2147483648 else v) + 2147483648 else (if 1073741823 < (v : Int) then (v : Int) - 2147483648 else v))).length ≤ 10 * ((c :: r).takeWhile dig).length
          have : (if (if 1073741823 < (v : Int) then (v : Int) - 2147483648 else (v : Int)) < 0 then (if 1073741823 < (v : Int) then (v : Int) - 2147483648 else (v : Int)) + 2147483648 else (if 1073741823 < (v : Int) then (v : Int) - 2147483648 else (v : Int))) = (v : Int) := by
            split <;> split <;> omega
          rw [this, Lib.itoa_nonneg, Lib.decDigits_length]
          have := nDigits_le 9 v (by omega)
          omega
    · split at h
      · unfold strM at h
        split at h
        · cases h
        · rename_i b n ht
          have hb : n ≤ r.length ∧ b.length + 1 ≤ n := textF_le _ ht
          split at h
          · cases h
          · rename_i hlen
            cases h
            refine ⟨?_, ?_, by simp only [List.length_cons]; omega⟩
            · show mayM 2 0 b = true
              rw [mayM2]
              simp only [decide_true, Bool.true_and, decide_eq_true_eq]
              omega
            · show (quotedM b).length ≤ 10 * (n + 1)
              unfold quotedM
              have := qbs_len b
              simp only [List.length_cons, List.length_append, List.length_nil]
              omega
      · split at h
        · rename_i hs
          simp only [Bool.or_eq_true, decide_eq_true_eq] at hs
          obtain ⟨g1, g2, g3, g4⟩ := nameM_good (.inl ⟨rfl, hs⟩) h
          exact ⟨g1, by omega, g3⟩
        · split at h
          · rename_i hs
            obtain ⟨g1, g2, g3, g4⟩ := nameM_good (.inr (.inl ⟨rfl, hs⟩)) h
            exact ⟨g1, by omega, g3⟩
          · split at h
            · rename_i hs
              match r, hs, h with
              | d :: r, hs, h =>
                cases hn : nameM 5 (d :: r) with
                | error e => rw [hn] at h; cases h
                | ok q' =>
                  rw [hn] at h
                  cases h
                  obtain ⟨g1, g2, g3, g4⟩ := nameM_good (.inr (.inr ⟨rfl, hs.2⟩)) hn
                  exact ⟨g1, by show (writtenM q'.1 q'.2.1 q'.2.2.1).length ≤ 10 * (q'.2.2.2 + 1); omega, by show q'.2.2.2 + 1 ≤ (c :: d :: r).length; simp only [List.length_cons] at g3 ⊢; omega⟩
            · unfold signM at h
              split at h
              · rename_i t ht
                cases h
                have hin := List.mem_of_find?_eq_some ht
                have hpre := List.find?_some ht
                have hpl : t.length ≤ (c :: r).length := by
                  rw [List.isPrefixOf_iff_prefix] at hpre
                  exact hpre.length_le
                refine ⟨?_, ?_, hpl⟩
                · show mayM 7 0 t = true
                  rw [mayM7]
                  simpa using hin
                · show (writtenM 7 0 t).length ≤ 10 * t.length
                  rw [show writtenM 7 0 t = t from rfl]
                  omega
              · cases h
def Wd.wi (w : Wd) : Wi := ⟨w.kind, w.num, w.pos, w.text⟩
/-- how long the words' texts are, a blank behind each -/
def outs : List Wi → Nat
  | [] => 0
  | w :: ws => w.out.length + 1 + outs ws
theorem lexF_good : ∀ (f : Nat) (r : List UInt8) (p : Nat), (∀ ws, lexF f r p = .ok ws → (ws.map Wd.wi).all Wi.may = true ∧ outs (ws.map Wd.wi) ≤ 11 * r.length) ∧ (∀ e, lexF f r p = .error e → e.2 ≤ p + r.length)
  | 0, r, p => ⟨fun ws h => by simp only [lexF, Except.ok.injEq] at h; subst h; exact ⟨rfl, Nat.zero_le _⟩, fun e h => by simp [lexF] at h⟩
  | f + 1, [], p => ⟨fun ws h => by simp only [lexF, Except.ok.injEq] at h; subst h; exact ⟨rfl, Nat.zero_le _⟩, fun e h => by simp [lexF] at h⟩
  | f + 1, c :: r, p => by
    simp only [lexF]
    split
    · obtain ⟨i1, i2⟩ := lexF_good f r (p + 1)
      refine ⟨fun ws h => ?_, fun e h => ?_⟩
      · have := i1 ws h
        simp only [List.length_cons]
        exact ⟨this.1, by omega⟩
      · have := i2 e h
        simp only [List.length_cons]
        omega
    · split
      · cases hn : noteM (c :: r) 0 with
        | none =>
          dsimp only
          exact ⟨fun ws h => (by cases h), fun e h => (by cases h; exact Nat.le_add_right _ _)⟩
        | some n =>
          dsimp only
          have hle := note_le hn
          obtain ⟨i1, i2⟩ := lexF_good f ((c :: r).drop n) (p + n)
          rw [List.length_drop] at i1 i2
          refine ⟨fun ws h => ?_, fun e h => ?_⟩
          · have := i1 ws h
            exact ⟨this.1, by omega⟩
          · have := i2 e h
            omega
      · cases hn : nextM (c :: r) with
        | error e0 =>
          dsimp only
          exact ⟨fun ws h => (by cases h), fun e h => (by cases h; exact Nat.le_add_right _ _)⟩
        | ok q =>
          dsimp only
          obtain ⟨g1, g2, g3⟩ := nextM_good hn
          obtain ⟨i1, i2⟩ := lexF_good f ((c :: r).drop q.2.2.2) (p + q.2.2.2)
          rw [List.length_drop] at i1 i2
          have hpos := nextM_pos hn
          cases hr : lexF f ((c :: r).drop q.2.2.2) (p + q.2.2.2) with
          | error e1 =>
            refine ⟨fun ws h => by simp [consOk] at h, fun e h => ?_⟩
            simp only [consOk, Except.error.injEq] at h
            subst h
            have := i2 e1 hr
            omega
          | ok w2 =>
            refine ⟨fun ws h => ?_, fun e h => by simp [consOk] at h⟩
            simp only [consOk, Except.ok.injEq] at h
            subst h
            obtain ⟨j1, j2⟩ := i1 w2 hr
            refine ⟨?_, ?_⟩
            · rw [List.map_cons, List.all_cons, j1, Bool.and_true]
              exact g1
            · rw [List.map_cons]
              show (writtenM q.1 q.2.1 q.2.2.1).length + 1 + outs (w2.map Wd.wi) ≤ _
              omega
theorem join_outs : ∀ ws : List Wi, (Lib.join (ws.map Wi.out) [32]).length ≤ outs ws
  | [] => by simp [Lib.join_nil]
  | [w] => by rw [List.map_cons, List.map_nil, Lib.join_one]; simp [outs]
  | w :: w2 :: ws => by
    have := join_outs (w2 :: ws)
    have hj : Lib.join ((w :: w2 :: ws).map Wi.out) [32] = w.out ++ 32 :: Lib.join ((w2 :: ws).map Wi.out) [32] := by
      rw [List.map_cons, List.map_cons, Lib.join_cons, Lib.join_cons]
      simp [Lib.joinTail]
    rw [hj, List.length_append, List.length_cons]
    show _ ≤ w.out.length + 1 + outs (w2 :: ws)
    omega
theorem rightM_le (s : List UInt8) : rightM s ≤ s.length := rightA_le _ _
theorem lexM_good {s : List UInt8} {ms : List Wd} (h : lexM s = .ok ms) (hs : s.length ≤ 5000) : (ms.map Wd.wi).all Wi.may = true ∧ (Lib.join ((ms.map Wd.wi).map Wi.out) [32]).length ≤ 65536 := by
  unfold lexM at h
  split at h
  · cases h
  · split at h
    · cases h
    · obtain ⟨g1, g2⟩ := (lexF_good _ _ _).1 ms h
      refine ⟨g1, ?_⟩
      have := join_outs (ms.map Wd.wi)
      omega
theorem lexM_at {s : List UInt8} {e : Int × Nat} (h : lexM s = .error e) : e.2 ≤ s.length := by
  unfold lexM at h
  split at h
  · cases h; exact Nat.zero_le _
  · split at h
    · cases h
      exact rightM_le s
    · have := (lexF_good _ _ _).2 e h
      omega
end Go.Proofs.YthcgccnbhdociaaDoor

namespace Go.Proofs.YthcgccnbhdociaaDoor
open Go Am
set_option linter.unusedSectionVars false
set_option linter.unusedSimpArgs false
set_option linter.unusedVariables false

theorem same_len {ms : List Wd} {ws : List Wi} (h : Same ms ws) : ms.length = ws.length := by
  have := congrArg List.length h
  simpa using this
theorem same_at {ms : List Wd} {ws : List Wi} (h : Same ms ws) {i : Nat} (hi : i < ms.length) (hj : i < ws.length) : ms[i].kind = ws[i].kind ∧ ms[i].num = ws[i].num ∧ ms[i].text = ws[i].text := by
  have := congrArg (·[i]?) h
  simp only [List.getElem?_map, List.getElem?_eq_getElem hi, List.getElem?_eq_getElem hj, Option.map_some, Option.some.injEq, Prod.mk.injEq] at this
  exact this
theorem again_ctr (s : List UInt8) (v : V) (ws : List Wi) (ms : List Wd) (h : Heap) (H : SlV h 4 v ws.length (wisV ws)) (hm : lexM s = .ok ms) (hS : Same ms ws) (hr : ms.Pairwise (fun a b => a.pos < b.pos)) :
    Ctr Tryd.prog 22 [.str s, v] h fun x h' => x = .bool true ∧ Ext h h' := by
  have hlen := same_len hS
  have hml := lexM_len hm
  refine c22_ctr rfl (wpK_of ?_)
  unfold c22
  simp +contextual only [↓wA, wB, wZ, repeatV, RX.evs, spl, over, ones, Ex.ends, evR, oneOf, top, ↓reduceIte, Nat.reduceEqDiff, Nat.reduceLeDiff, Nat.reduceAdd, Nat.reduceSub, Nat.reduceMul, reduceCtorEq, Int.reduceEq, Int.reduceLT, Int.reduceLE, Int.reduceNeg, Int.reduceAdd, Int.reduceSub]
  refine callK_intro (lex_ctr s h) ?_
  rintro x h1 ⟨hx, hl⟩
  rw [hm] at hl
  obtain ⟨v2, rfl, hO⟩ := hl
  have hx2 : Ext h1 ((h1.new (.ofL [.int .i64 0, .int .i64 0] 0 false)).set (pa h1.next) (.ofL [.int .i64 0, .int .i64 0] 0 false)) := ((Ext.refl h1).new _).set (Nat.le_refl _) _
  have g1 : ((h1.new (.ofL [.int .i64 0, .int .i64 0] 0 false)).set (pa h1.next) (.ofL [.int .i64 0, .int .i64 0] 0 false)).get (pa h1.next) = .ofL [.int .i64 0, .int .i64 0] 0 false := by rw [get_set, if_pos rfl]
  have hl1 : ((ms.length : Int) = (ws.length : Int)) = True := eq_true (by omega)
  have HA : SlV ((h1.new (.ofL [.int .i64 0, .int .i64 0] 0 false)).set (pa h1.next) (.ofL [.int .i64 0, .int .i64 0] 0 false)) 4 v2 ms.length (wdsV ms) := hO.v.ext hx2
  have HB : SlV ((h1.new (.ofL [.int .i64 0, .int .i64 0] 0 false)).set (pa h1.next) (.ofL [.int .i64 0, .int .i64 0] 0 false)) 4 v ws.length (wisV ws) := H.ext (hx.trans hx2)
  simp +contextual only [g1, HA.len, HB.len, hl1, ↓wA, wB, wZ, repeatV, RX.evs, spl, over, ones, Ex.ends, evR, oneOf, top, ↓reduceIte, Nat.reduceEqDiff, Nat.reduceLeDiff, Nat.reduceAdd, Nat.reduceSub, Nat.reduceMul, reduceCtorEq, Int.reduceEq, Int.reduceLT, Int.reduceLE, Int.reduceNeg, Int.reduceAdd, Int.reduceSub]
  generalize hH : (h1.new (.ofL [.int .i64 0, .int .i64 0] 0 false)).set (pa h1.next) (.ofL [.int .i64 0, .int .i64 0] 0 false) = H1 at *
  refine loopK_intro (fun r h' => h' = H1 ∧ r 5 = v2 ∧ r 1 = v ∧ ∃ i : Nat, r 7 = .int .i64 i ∧ i ≤ ms.length) (fun r h' => ms.length - (r 7).toN) ?_ ?_
  · exact ⟨rfl, by simp only [↓wA, wB, wZ, repeatV, RX.evs, spl, over, ones, Ex.ends, evR, oneOf, top, ↓reduceIte, Nat.reduceEqDiff, Nat.reduceLeDiff, Nat.reduceAdd, Nat.reduceSub, Nat.reduceMul, reduceCtorEq, Int.reduceEq, Int.reduceLT, Int.reduceLE, Int.reduceNeg, Int.reduceAdd, Int.reduceSub], by simp only [↓wA, wB, wZ, repeatV, RX.evs, spl, over, ones, Ex.ends, evR, oneOf, top, ↓reduceIte, Nat.reduceEqDiff, Nat.reduceLeDiff, Nat.reduceAdd, Nat.reduceSub, Nat.reduceMul, reduceCtorEq, Int.reduceEq, Int.reduceLT, Int.reduceLE, Int.reduceNeg, Int.reduceAdd, Int.reduceSub], 0, by simp only [↓wA, wB, wZ, repeatV, RX.evs, spl, over, ones, Ex.ends, evR, oneOf, top, ↓reduceIte, Nat.reduceEqDiff, Nat.reduceLeDiff, Nat.reduceAdd, Nat.reduceSub, Nat.reduceMul, reduceCtorEq, Int.reduceEq, Int.reduceLT, Int.reduceLE, Int.reduceNeg, Int.reduceAdd, Int.reduceSub] <;> rfl, by omega⟩
  · rintro r h' ⟨rfl, r5, r1, i, r7, hi⟩
    unfold c22l1
    by_cases hlt : i < ms.length
    · have g0 : ((i : Int) < (ms.length : Int)) = True := eq_true (by omega)
      have hlt2 : i < ws.length := by omega
      obtain ⟨e1, e2, e3⟩ := same_at hS hlt hlt2
      obtain ⟨b1, o1, ia1, at1⟩ := HA.ia (k := .i64) hlt
      obtain ⟨b2, o2, ia2, at2⟩ := HB.ia (k := .i64) hlt2
      have cA : ∀ j, j < 4 → ld1B (h'.get b1) (o1 + i * 4 + j) = (ms[i].enc)[j]? := fun j hj => at1.cell (wdsV_at ms i hlt) (by rw [wdsV_len]; omega) hj
      have cB : ∀ j, j < 4 → ld1B (h'.get b2) (o2 + i * 4 + j) = (ws[i].enc)[j]? := fun j hj => at2.cell (wisV_at ws i hlt2) (by rw [wisV_len]; omega) hj
      have a0 : ld1B (h'.get b1) (o1 + i * 4) = some (.int .i64 ms[i].kind) := cA 0 (by omega)
      have a1 : ld1B (h'.get b1) (o1 + i * 4 + 1) = some (.int .i64 ms[i].num) := cA 1 (by omega)
      have a2 : ld1B (h'.get b1) (o1 + i * 4 + 2) = some (.int .i64 ms[i].pos) := cA 2 (by omega)
      have a3 : ld1B (h'.get b1) (o1 + i * 4 + 3) = some (.str ms[i].text) := cA 3 (by omega)
      have b0' : ld1B (h'.get b2) (o2 + i * 4) = some (.int .i64 ws[i].kind) := cB 0 (by omega)
      have b1' : ld1B (h'.get b2) (o2 + i * 4 + 1) = some (.int .i64 ws[i].num) := cB 1 (by omega)
      have b3' : ld1B (h'.get b2) (o2 + i * 4 + 3) = some (.str ws[i].text) := cB 3 (by omega)
      rw [← e1] at b0'
      rw [← e2] at b1'
      rw [← e3] at b3'
      have w : IntKind.i64.wrap ((i : Int) + 1) = ((i + 1 : Nat) : Int) := by rw [wrap_i64 (by omega) (by omega)]; rfl
      by_cases hi0 : 0 < i
      · have t1 : ((0 : Int) < (i : Int)) = True := eq_true (by omega)
        have w1 : IntKind.i64.wrap ((i : Int) - 1) = ((i - 1 : Nat) : Int) := by rw [wrap_i64 (by omega) (by omega)]; omega
        have hlt3 : i - 1 < ms.length := by omega
        obtain ⟨b3, o3, ia3, at3⟩ := HA.ia (k := .i64) hlt3
        have d2 : ld1B (h'.get b3) (o3 + (i - 1) * 4 + 2) = some (.int .i64 ms[i - 1].pos) := at3.cell (wdsV_at ms (i - 1) hlt3) (by rw [wdsV_len]; omega) (show 2 < 4 by omega)
        have hrise : ms[i - 1].pos < ms[i].pos := List.pairwise_iff_getElem.1 hr (i - 1) i hlt3 hlt (by omega)
        have t2 : ((ms[i].pos : Int) ≤ (ms[i - 1].pos : Int)) = False := eq_false (by omega)
        simp +contextual (maxSteps := 1000000) only [r5, r1, r7, g0, t1, t2, w1, HA.len, ia1, ia2, ia3, a0, a1, a2, a3, b0', b1', b3', d2, w, ↓wA, wB, wZ, repeatV, RX.evs, spl, over, ones, Ex.ends, evR, oneOf, top, ↓reduceIte, Nat.reduceEqDiff, Nat.reduceLeDiff, Nat.reduceAdd, Nat.reduceSub, Nat.reduceMul, reduceCtorEq, Int.reduceEq, Int.reduceLT, Int.reduceLE, Int.reduceNeg, Int.reduceAdd, Int.reduceSub]
        exact ⟨⟨i + 1, rfl, hlt⟩, by omega⟩
      · have t1 : ((0 : Int) < (i : Int)) = False := eq_false (by omega)
        simp +contextual (maxSteps := 1000000) only [r5, r1, r7, g0, t1, HA.len, ia1, ia2, a0, a1, a2, a3, b0', b1', b3', w, ↓wA, wB, wZ, repeatV, RX.evs, spl, over, ones, Ex.ends, evR, oneOf, top, ↓reduceIte, Nat.reduceEqDiff, Nat.reduceLeDiff, Nat.reduceAdd, Nat.reduceSub, Nat.reduceMul, reduceCtorEq, Int.reduceEq, Int.reduceLT, Int.reduceLE, Int.reduceNeg, Int.reduceAdd, Int.reduceSub]
        exact ⟨⟨i + 1, rfl, hlt⟩, by omega⟩
    · have g0 : ((i : Int) < (ms.length : Int)) = False := eq_false (by omega)
      simp +contextual only [r5, r1, r7, g0, HA.len, ↓wA, wB, wZ, repeatV, RX.evs, spl, over, ones, Ex.ends, evR, oneOf, top, ↓reduceIte, Nat.reduceEqDiff, Nat.reduceLeDiff, Nat.reduceAdd, Nat.reduceSub, Nat.reduceMul, reduceCtorEq, Int.reduceEq, Int.reduceLT, Int.reduceLE, Int.reduceNeg, Int.reduceAdd, Int.reduceSub]
      exact hx.trans hx2
end Go.Proofs.YthcgccnbhdociaaDoor

namespace Go.Proofs.YthcgccnbhdociaaDoor
open Go Am Go.RowKit
set_option linter.unusedSectionVars false
set_option linter.unusedSimpArgs false
set_option linter.unusedVariables false

theorem wds_wis : ∀ ms : List Wd, wdsV ms = wisV (ms.map Wd.wi)
  | [] => rfl
  | w :: ms => by rw [wdsV, List.map_cons, wisV, wds_wis ms]; rfl
theorem text_out {w : Wi} (h : w.may = true) : w.text.length ≤ w.out.length := by
  obtain ⟨k, n, p, s⟩ := w
  have hm : mayM k n s = true := h
  show s.length ≤ (writtenM k n s).length
  unfold writtenM
  split
  · rename_i hk
    subst hk
    rw [mayM1] at hm
    simp only [Bool.and_eq_true, decide_eq_true_eq] at hm
    rw [hm.1.1]
    exact Nat.zero_le _
  · split
    · have : ∀ l : List UInt8, l.length ≤ (l.flatMap qb).length := by
        intro l
        induction l with
        | nil => simp
        | cons c l ih =>
          rw [List.flatMap_cons, List.length_append, List.length_cons]
          have : 1 ≤ (qb c).length := by
            unfold qb
            split
            · simp
            · split <;> simp
          omega
      unfold quotedM
      have := this s
      simp only [List.length_cons, List.length_append]
      omega
    · split
      · simp
      · exact Nat.le_refl _
theorem outs_mem : ∀ {ws : List Wi} {w : Wi}, w ∈ ws → w.out.length ≤ outs ws
  | x :: ws, w, h => by
    rcases List.mem_cons.1 h with rfl | h
    · show w.out.length ≤ w.out.length + 1 + outs ws
      omega
    · have := outs_mem h
      show w.out.length ≤ x.out.length + 1 + outs ws
      omega
theorem lexM_texts {s : List UInt8} {ms : List Wd} (h : lexM s = .ok ms) (hs : s.length ≤ 3000) : ms.length ≤ 3000 ∧ ∀ w ∈ ms.map Wd.wi, w.text.length ≤ 50000 := by
  unfold lexM at h
  split at h
  · cases h
  · split at h
    · cases h
    · obtain ⟨g1, g2⟩ := (lexF_good _ _ _).1 ms h
      have hl := lexF_len _ _ _ _ h
      refine ⟨by omega, fun w hw => ?_⟩
      have h1 := text_out (List.all_eq_true.1 g1 w hw)
      have h2 := outs_mem hw
      omega

set_option maxHeartbeats 1000000 in
/-- LexBack -/
theorem lexBack (v : V) (ws : List Wi) (s : List UInt8) (h : Heap) (H : SlV h 4 v ws.length (wisV ws)) (hl : ws.length ≤ maxLen) : Ctr Tryd.prog 8 [v, .str s] h fun y _ => y = .bool true := by
  refine c8_ctr rfl (wpK_of ?_)
  unfold c8
  simp +contextual only [↓wA, wB, wZ, repeatV, RX.evs, spl, over, ones, Ex.ends, evR, oneOf, top, ↓reduceIte, Nat.reduceEqDiff, Nat.reduceLeDiff, Nat.reduceAdd, Nat.reduceSub, Nat.reduceMul, reduceCtorEq, Int.reduceEq, Int.reduceLT, Int.reduceLE, Int.reduceNeg, Int.reduceAdd, Int.reduceSub]
  refine callK_intro (known_ctr _) ?_
  rintro x h1 ⟨rfl, hx1⟩
  simp +contextual only [↓wA, wB, wZ, repeatV, RX.evs, spl, over, ones, Ex.ends, evR, oneOf, top, ↓reduceIte, Nat.reduceEqDiff, Nat.reduceLeDiff, Nat.reduceAdd, Nat.reduceSub, Nat.reduceMul, reduceCtorEq, Int.reduceEq, Int.reduceLT, Int.reduceLE, Int.reduceNeg, Int.reduceAdd, Int.reduceSub]
  refine callK_pure (large_pure v ws h1 (H.ext hx1) hl) ?_
  cases hL : largeM ws with
  | true => simp +contextual only [↓wA, wB, wZ, repeatV, RX.evs, spl, over, ones, Ex.ends, evR, oneOf, top, ↓reduceIte, Nat.reduceEqDiff, Nat.reduceLeDiff, Nat.reduceAdd, Nat.reduceSub, Nat.reduceMul, reduceCtorEq, Int.reduceEq, Int.reduceLT, Int.reduceLE, Int.reduceNeg, Int.reduceAdd, Int.reduceSub]
  | false =>
    obtain ⟨l1, l2⟩ := small_of hL
    by_cases hs : (3000 : Int) < (s.length : Int)
    · have hs' := eq_true hs
      simp +contextual only [hs', ↓wA, wB, wZ, repeatV, RX.evs, spl, over, ones, Ex.ends, evR, oneOf, top, ↓reduceIte, Nat.reduceEqDiff, Nat.reduceLeDiff, Nat.reduceAdd, Nat.reduceSub, Nat.reduceMul, reduceCtorEq, Int.reduceEq, Int.reduceLT, Int.reduceLE, Int.reduceNeg, Int.reduceAdd, Int.reduceSub]
    have hs' := eq_false hs
    have hs3 : s.length ≤ 3000 := by omega
    simp +contextual only [hs', ↓wA, wB, wZ, repeatV, RX.evs, spl, over, ones, Ex.ends, evR, oneOf, top, ↓reduceIte, Nat.reduceEqDiff, Nat.reduceLeDiff, Nat.reduceAdd, Nat.reduceSub, Nat.reduceMul, reduceCtorEq, Int.reduceEq, Int.reduceLT, Int.reduceLE, Int.reduceNeg, Int.reduceAdd, Int.reduceSub]
    refine callK_intro (write_ctr v ws h1 (H.ext hx1) (by omega) (fun w hw => by have := l2 w hw; omega)) ?_
    rintro x h2 ⟨rfl, hx2⟩
    simp +contextual only [↓wA, wB, wZ, repeatV, RX.evs, spl, over, ones, Ex.ends, evR, oneOf, top, ↓reduceIte, Nat.reduceEqDiff, Nat.reduceLeDiff, Nat.reduceAdd, Nat.reduceSub, Nat.reduceMul, reduceCtorEq, Int.reduceEq, Int.reduceLT, Int.reduceLE, Int.reduceNeg, Int.reduceAdd, Int.reduceSub]
    have hx12 := hx1.trans hx2
    have hcase : (∃ x, writeM ws = (x, 0) ∧ 65536 < x.length) ∨ (∃ x, writeM ws = (x, 0) ∧ x.length ≤ 65536 ∧ ∃ ms, lexM x = .ok ms ∧ Same ms ws ∧ ms.Pairwise (fun a b => a.pos < b.pos)) ∨ writeM ws = ([], 2) := by
      unfold writeM
      cases hall : ws.all Wi.may with
      | true =>
        rw [if_pos rfl]
        by_cases hlong : 65536 < (Lib.join (ws.map Wi.out) [32]).length
        · exact .inl ⟨_, rfl, hlong⟩
        · exact .inr (.inl ⟨_, rfl, by omega, read_back hall (by omega)⟩)
      | false =>
        rw [if_neg Bool.false_ne_true]
        exact .inr (.inr rfl)
    rcases hcase with ⟨x, hW, hlong⟩ | ⟨x, hW, hlong, ms, hms, hSm, hRise⟩ | hW
    case' inl =>
      have t1 : ((65536 : Int) < (x.length : Int)) = True := eq_true (by omega)
      have n0 : (((0 : Nat) : Int) = 0) = True := eq_true rfl
      rw [hW]
      simp +contextual only [t1, ↓wA, wB, wZ, repeatV, RX.evs, spl, over, ones, Ex.ends, evR, oneOf, top, ↓reduceIte, Nat.reduceEqDiff, Nat.reduceLeDiff, Nat.reduceAdd, Nat.reduceSub, Nat.reduceMul, reduceCtorEq, Int.reduceEq, Int.reduceLT, Int.reduceLE, Int.reduceNeg, Int.reduceAdd, Int.reduceSub]
      refine callK_intro (faulty_ctr _ _ _ _) ?_
      rintro y ha ⟨rfl, hxb⟩
      rw [read_long hlong]
      have hxa := hx12.trans hxb
      simp +contextual only [t1, n0, ↓wA, wB, wZ, repeatV, RX.evs, spl, over, ones, Ex.ends, evR, oneOf, top, ↓reduceIte, Nat.reduceEqDiff, Nat.reduceLeDiff, Nat.reduceAdd, Nat.reduceSub, Nat.reduceMul, reduceCtorEq, Int.reduceEq, Int.reduceLT, Int.reduceLE, Int.reduceNeg, Int.reduceAdd, Int.reduceSub]
    case' inr.inl =>
      have t1 : ((65536 : Int) < (x.length : Int)) = False := eq_false (by omega)
      rw [hW]
      simp +contextual only [t1, ↓wA, wB, wZ, repeatV, RX.evs, spl, over, ones, Ex.ends, evR, oneOf, top, ↓reduceIte, Nat.reduceEqDiff, Nat.reduceLeDiff, Nat.reduceAdd, Nat.reduceSub, Nat.reduceMul, reduceCtorEq, Int.reduceEq, Int.reduceLT, Int.reduceLE, Int.reduceNeg, Int.reduceAdd, Int.reduceSub]
      refine callK_intro (again_ctr x v ws ms h2 (H.ext hx12) hms hSm hRise) ?_
      rintro y ha ⟨rfl, hxb⟩
      have hxa := hx12.trans hxb
      simp +contextual only [t1, ↓wA, wB, wZ, repeatV, RX.evs, spl, over, ones, Ex.ends, evR, oneOf, top, ↓reduceIte, Nat.reduceEqDiff, Nat.reduceLeDiff, Nat.reduceAdd, Nat.reduceSub, Nat.reduceMul, reduceCtorEq, Int.reduceEq, Int.reduceLT, Int.reduceLE, Int.reduceNeg, Int.reduceAdd, Int.reduceSub]
    case' inr.inr =>
      have hxa := hx12
      rw [hW]
      simp +contextual only [↓wA, wB, wZ, repeatV, RX.evs, spl, over, ones, Ex.ends, evR, oneOf, top, ↓reduceIte, Nat.reduceEqDiff, Nat.reduceLeDiff, Nat.reduceAdd, Nat.reduceSub, Nat.reduceMul, reduceCtorEq, Int.reduceEq, Int.reduceLT, Int.reduceLE, Int.reduceNeg, Int.reduceAdd, Int.reduceSub]
    all_goals
      refine callK_intro (lex_ctr s _) ?_
      rintro y h4 ⟨hx4, hl4⟩
      have hx4' := hxa.trans hx4
      cases hlm : lexM s with
      | error e =>
        rw [hlm] at hl4
        subst hl4
        have he : (e.1 = 0) = False := eq_false (lexM_err hlm)
        have hp0 : (0 ≤ (e.2 : Int)) = True := eq_true (by omega)
        have hp1 : ((e.2 : Int) ≤ (s.length : Int)) = True := eq_true (by have := lexM_at hlm; omega)
        simp +contextual only [he, hp0, hp1, ↓wA, wB, wZ, repeatV, RX.evs, spl, over, ones, Ex.ends, evR, oneOf, top, ↓reduceIte, Nat.reduceEqDiff, Nat.reduceLeDiff, Nat.reduceAdd, Nat.reduceSub, Nat.reduceMul, reduceCtorEq, Int.reduceEq, Int.reduceLT, Int.reduceLE, Int.reduceNeg, Int.reduceAdd, Int.reduceSub]
      | ok ms2 =>
        rw [hlm] at hl4
        obtain ⟨v4, rfl, hO⟩ := hl4
        have hx5 : Ext h4 ((h4.new (.ofL [.int .i64 0, .int .i64 0] 0 false)).set (pa h4.next) (.ofL [.int .i64 0, .int .i64 0] 0 false)) := ((Ext.refl h4).new _).set (Nat.le_refl _) _
        have g1 : ((h4.new (.ofL [.int .i64 0, .int .i64 0] 0 false)).set (pa h4.next) (.ofL [.int .i64 0, .int .i64 0] 0 false)).get (pa h4.next) = .ofL [.int .i64 0, .int .i64 0] 0 false := by rw [get_set, if_pos rfl]
        obtain ⟨m1, m2⟩ := lexM_good hlm (by omega)
        obtain ⟨m3, m4⟩ := lexM_texts hlm hs3
        obtain ⟨ms3, r1, r2, r3⟩ := read_back m1 m2
        have hw2 : writeM (ms2.map Wd.wi) = (Lib.join ((ms2.map Wd.wi).map Wi.out) [32], 0) := by unfold writeM; rw [if_pos m1]
        have HM : SlV h4 4 v4 (ms2.map Wd.wi).length (wisV (ms2.map Wd.wi)) := by rw [← wds_wis, List.length_map]; exact hO.v
        simp +contextual only [g1, ↓wA, wB, wZ, repeatV, RX.evs, spl, over, ones, Ex.ends, evR, oneOf, top, ↓reduceIte, Nat.reduceEqDiff, Nat.reduceLeDiff, Nat.reduceAdd, Nat.reduceSub, Nat.reduceMul, reduceCtorEq, Int.reduceEq, Int.reduceLT, Int.reduceLE, Int.reduceNeg, Int.reduceAdd, Int.reduceSub]
        refine callK_intro (write_ctr v4 (ms2.map Wd.wi) _ (HM.ext hx5) (by rw [List.length_map]; omega) m4) ?_
        rintro y h6 ⟨rfl, hx6⟩
        rw [hw2]
        simp +contextual only [↓wA, wB, wZ, repeatV, RX.evs, spl, over, ones, Ex.ends, evR, oneOf, top, ↓reduceIte, Nat.reduceEqDiff, Nat.reduceLeDiff, Nat.reduceAdd, Nat.reduceSub, Nat.reduceMul, reduceCtorEq, Int.reduceEq, Int.reduceLT, Int.reduceLE, Int.reduceNeg, Int.reduceAdd, Int.reduceSub]
        refine callK_intro (again_ctr _ v4 (ms2.map Wd.wi) ms3 h6 ((HM.ext hx5).ext hx6) r1 r2 r3) ?_
        rintro y h7 ⟨rfl, hx7⟩
        simp +contextual only [↓wA, wB, wZ, repeatV, RX.evs, spl, over, ones, Ex.ends, evR, oneOf, top, ↓reduceIte, Nat.reduceEqDiff, Nat.reduceLeDiff, Nat.reduceAdd, Nat.reduceSub, Nat.reduceMul, reduceCtorEq, Int.reduceEq, Int.reduceLT, Int.reduceLE, Int.reduceNeg, Int.reduceAdd, Int.reduceSub]
end Go.Proofs.YthcgccnbhdociaaDoor

namespace Go.Proofs.YthcgccnbhdociaaDoor
open Go Am Go.RowKit Go.Proofs Go.Lib

abbrev laidL : List (String × DataW Unit) := Rows.lexTellsRow.laid
theorem errAt_of {n : String} {g : Nat} {t : TypeId} {ms : Array (String × TypeId)} {name : String} {d : DataW Unit} {W : World} (hg : Tryd.prog.globalNamed n = some g) (hty : (Tryd.prog.globals[g]?).map (·.type) = some t) (hi : Tryd.prog.underlying t = some (.interface ms))
    (h : VarReads Tryd.prog W n (.iface name d)) : ErrAt W g := by
  obtain ⟨g', t', cs, fuel, p, h1, h2, h3, h4⟩ := h
  obtain rfl := Option.some.inj (hg.symm.trans h1)
  obtain rfl := Option.some.inj (hty.symm.trans h2)
  obtain ⟨_, u, v, hcs, _, _⟩ := iface_of_trod hi h4
  refine ⟨.iface u v, ?_, .inr ⟨u, v, rfl⟩⟩
  have := World.var?_cell hg h3 0
  rw [this, ← Array.getElem?_toList, hcs]
  rfl
theorem tab_of {n : String} {g : Nat} {t e : TypeId} {m : Nat} {k : IntKind} {zs : List Int} {W : World} (hg : Tryd.prog.globalNamed n = some g) (hty : (Tryd.prog.globals[g]?).map (·.type) = some t) (ht : Tryd.prog.underlying t = some (.array m e)) (he : Tryd.prog.underlying e = some (.int k)) (hce : Tryd.prog.cellsOf e = 1) (hct : Tryd.prog.cellsOf t = m)
    (h : VarReads Tryd.prog W n (tabData k zs)) : TabIs Tryd.prog W n k zs := by
  obtain ⟨g', t', cs, fuel, p, h1, h2, h3, h4⟩ := h
  obtain rfl := Option.some.inj (hg.symm.trans h1)
  obtain rfl := Option.some.inj (hty.symm.trans h2)
  unfold TabIs
  rw [h3, ← cells_of_tab ht he hce hct h4]

theorem u8Types : Go.Proofs.U8Types Tryd.prog Tryd.lays260_ren := Go.Proofs.U8Types.of260 Tryd.lays260
theorem u8Extra : U8Extra Tryd.prog Tryd.lays260_ren := ⟨by kernel_rfl, by kernel_rfl, by kernel_rfl, by kernel_rfl, by kernel_rfl, by kernel_rfl, by kernel_rfl⟩
theorem first_eq : (Rows.laid_unicode_utf8_first : DataW Unit) = firstData := Pinned.utf8First_eq
theorem accept_eq : (Rows.laid_unicode_utf8_acceptRanges : DataW Unit) = acceptData := by kernel_rfl
theorem pow10_eq : (Rows.laid_internal_strconv_uint64pow10 : DataW Unit) = tabData .u64 pow10Tab := by kernel_rfl
theorem g3_eq : Tryd.lays260_ren.g 3 = 0 := by kernel_rfl
theorem g4_eq : Tryd.lays260_ren.g 4 = 1 := by kernel_rfl

theorem libOk_of {l : List (String × DataW Unit)} {W : World} (hm : ∀ p ∈ laidL, p ∈ l) (hL : laidMet Tryd.prog l W) (hsh : W.ShapedOpen Tryd.prog) : LibOk W := by
  have r : ∀ (n : String) (d : DataW Unit), (n, d) ∈ laidL → VarReads Tryd.prog W n d := fun n d h => laidMet.reads hL (hm _ h)
  have hf := r "unicode/utf8.first" Rows.laid_unicode_utf8_first (by simp [laidL, Rows.lexTellsRow])
  have ha := r "unicode/utf8.acceptRanges" Rows.laid_unicode_utf8_acceptRanges (by simp [laidL, Rows.lexTellsRow])
  have hs := r "strconv.ErrSyntax" Rows.laid_strconv_ErrSyntax (by simp [laidL, Rows.lexTellsRow])
  have hr := r "strconv.ErrRange" Rows.laid_strconv_ErrRange (by simp [laidL, Rows.lexTellsRow])
  have hp := r "internal/strconv.uint64pow10" Rows.laid_internal_strconv_uint64pow10 (by simp [laidL, Rows.lexTellsRow])
  rw [first_eq] at hf
  rw [accept_eq] at ha
  rw [pow10_eq] at hp
  refine ⟨?_, ?_, ?_, ?_, ?_⟩
  · have := Go.Proofs.utf8Tabs_of_readsT u8Types u8Extra hf ha
    rwa [g3_eq, g4_eq] at this
  · exact Go.Proofs.cell_of_shapedOpen_int hsh (g := 2) (t := 3) (zero := #[.int .i64 0]) (of_decide_eq_true (by kernel_rfl)) (by kernel_rfl) rfl (by kernel_rfl) (by kernel_rfl) Tryd.underlying3
  · exact errAt_of (n := "strconv.ErrSyntax") (t := 81) (by kernel_rfl) (by kernel_rfl) Tryd.underlying81 hs
  · exact errAt_of (n := "strconv.ErrRange") (t := 81) (by kernel_rfl) (by kernel_rfl) Tryd.underlying81 hr
  · exact tab_of (g := 3) (t := 115) (e := 85) (m := 20) (by kernel_rfl) (by kernel_rfl) (by kernel_rfl) (by kernel_rfl) (by kernel_rfl) (by kernel_rfl) hp
end Go.Proofs.YthcgccnbhdociaaDoor
