/- The chapter's functions, walked by the abstract machine: plain lemmas, no condition. -/
import Derived.Test.YthcgccnbhdociaaDoorM7
import Derived.Test.YthcgccnbhdociaaDoorM3
import Derived.Test.YthcgccnbhdociaaDoorM8
import Derived.Test.YthcgccnbhdociaaDoorM5
import Derived.Lay
import Derived.LaidLaws
import Derived.PinnedBridge
import Derived.Lib.LaidU8T
import Derived.Shelf.Vars
import Derived.MakeChecks

namespace Go.Proofs.YthcgccnbhdociaaDoor
open Go Am Go.RowKit
set_option linter.unusedSectionVars false
set_option linter.unusedSimpArgs false
set_option linter.unusedVariables false

theorem neq31i (a b : Wi) : (BK.other .neq 31).run Tryd.prog (.agg a.enc) (.agg b.enc) = some (.bool (!decide (a = b))) := by
  obtain ⟨k, n, p, t⟩ := a
  obtain ⟨k', n', p', t'⟩ := b
  have h : (BK.other .neq 31).run Tryd.prog (.agg [.int .i64 k, .int .i64 n, .int .i64 p, .str t]) (.agg [.int .i64 k', .int .i64 n', .int .i64 p', .str t']) =
   (match (bif Int.eqB k k' then (bif Int.eqB n n' then (bif Int.eqB p p' then (bif beqBytes t t' then some true else some false) else some false) else some false) else some false) with
     | some b => some (V.bool (!b))
     | none => none) := by kernel_rfl
  show (BK.other .neq 31).run Tryd.prog (.agg [.int .i64 k, .int .i64 n, .int .i64 p, .str t]) (.agg [.int .i64 k', .int .i64 n', .int .i64 p', .str t']) = _
  rw [h]
  simp only [eqB_dec, beqBytes_dec, Wi.mk.injEq]
  by_cases h1 : k = k' <;> by_cases h2 : n = n' <;> by_cases h3 : p = p' <;> by_cases h4 : t = t' <;> simp [h1, h2, h3, h4]
theorem same_pure_i (v1 v2 : V) (a b : List Wi) (h : Heap) (H1 : SlV h 4 v1 a.length (wisV a)) (H2 : SlV h 4 v2 b.length (wisV b)) (hl : a.length ≤ 100000) :
    CallsV Tryd.prog 12 [v1, v2] h (.bool (decide (a = b))) h := by
  refine pure_calls (c12_ctr rfl (wpK_of ?_))
  unfold c12
  simp +contextual only [H1.len, H2.len, ↓wA, wB, wZ, repeatV, RX.evs, spl, over, ones, Ex.ends, evR, oneOf, top, ↓reduceIte, Nat.reduceEqDiff, Nat.reduceLeDiff, Nat.reduceAdd, Nat.reduceSub, Nat.reduceMul, reduceCtorEq, Int.reduceEq, Int.reduceLT, Int.reduceLE, Int.reduceNeg, Int.reduceAdd, Int.reduceSub]
  by_cases hn : a.length = b.length
  · have hn' : ((a.length : Int) = (b.length : Int)) = True := eq_true (by omega)
    simp +contextual only [hn', ↓wA, wB, wZ, repeatV, RX.evs, spl, over, ones, Ex.ends, evR, oneOf, top, ↓reduceIte, Nat.reduceEqDiff, Nat.reduceLeDiff, Nat.reduceAdd, Nat.reduceSub, Nat.reduceMul, reduceCtorEq, Int.reduceEq, Int.reduceLT, Int.reduceLE, Int.reduceNeg, Int.reduceAdd, Int.reduceSub]
    refine loopK_intro (fun r h' => h' = h ∧ r 0 = v1 ∧ r 1 = v2 ∧ ∃ i : Nat, r 5 = .int .i64 i ∧ i ≤ a.length ∧ decide (a = b) = decide (a.drop i = b.drop i)) (fun r h' => a.length - (r 5).toN) ?_ ?_
    · exact ⟨rfl, by simp only [↓wA, wB, wZ, repeatV, RX.evs, spl, over, ones, Ex.ends, evR, oneOf, top, ↓reduceIte, Nat.reduceEqDiff, Nat.reduceLeDiff, Nat.reduceAdd, Nat.reduceSub, Nat.reduceMul, reduceCtorEq, Int.reduceEq, Int.reduceLT, Int.reduceLE, Int.reduceNeg, Int.reduceAdd, Int.reduceSub], by simp only [↓wA, wB, wZ, repeatV, RX.evs, spl, over, ones, Ex.ends, evR, oneOf, top, ↓reduceIte, Nat.reduceEqDiff, Nat.reduceLeDiff, Nat.reduceAdd, Nat.reduceSub, Nat.reduceMul, reduceCtorEq, Int.reduceEq, Int.reduceLT, Int.reduceLE, Int.reduceNeg, Int.reduceAdd, Int.reduceSub], 0, by simp only [↓wA, wB, wZ, repeatV, RX.evs, spl, over, ones, Ex.ends, evR, oneOf, top, ↓reduceIte, Nat.reduceEqDiff, Nat.reduceLeDiff, Nat.reduceAdd, Nat.reduceSub, Nat.reduceMul, reduceCtorEq, Int.reduceEq, Int.reduceLT, Int.reduceLE, Int.reduceNeg, Int.reduceAdd, Int.reduceSub]; rfl, by omega, rfl⟩
    · rintro r h' ⟨rfl, r0, r1, i, r5, hi, hok⟩
      unfold c12l1
      by_cases hlt : i < a.length
      · have g0 : ((i : Int) < (a.length : Int)) = True := eq_true (by omega)
        have hlt2 : i < b.length := by omega
        obtain ⟨b1, o1, ia1, at1⟩ := H1.ia (k := .i64) hlt
        obtain ⟨b2, o2, ia2, at2⟩ := H2.ia (k := .i64) hlt2
        have ld1 := at1.ldn (i := i * 4) (n := 4) (by rw [wisV_len]; omega)
        have ld2 := at2.ldn (i := i * 4) (n := 4) (by rw [wisV_len]; omega)
        rw [wisV_at a i hlt] at ld1
        rw [wisV_at b i hlt2] at ld2
        rw [List.drop_eq_getElem_cons hlt, List.drop_eq_getElem_cons hlt2] at hok
        by_cases he : a[i] = b[i]
        · have w : IntKind.i64.wrap ((i : Int) + 1) = ((i + 1 : Nat) : Int) := by rw [wrap_i64 (by omega) (by omega)]; rfl
          have he' : decide (a[i] = b[i]) = true := decide_eq_true he
          simp +contextual (maxSteps := 1000000) only [r0, r1, r5, g0, H1.len, H2.len, ia1, ia2, ld1, ld2, neq31i, he', w, ↓wA, wB, wZ, repeatV, RX.evs, spl, over, ones, Ex.ends, evR, oneOf, top, ↓reduceIte, Nat.reduceEqDiff, Nat.reduceLeDiff, Nat.reduceAdd, Nat.reduceSub, Nat.reduceMul, reduceCtorEq, Int.reduceEq, Int.reduceLT, Int.reduceLE, Int.reduceNeg, Int.reduceAdd, Int.reduceSub]
          refine ⟨⟨i + 1, rfl, hlt, ?_⟩, by omega⟩
          rw [hok, he, Bool.eq_iff_iff, decide_eq_true_eq, decide_eq_true_eq, List.cons.injEq]
          exact ⟨fun q => q.2, fun q => ⟨rfl, q⟩⟩
        · have he' : decide (a[i] = b[i]) = false := decide_eq_false he
          simp +contextual (maxSteps := 1000000) only [r0, r1, r5, g0, H1.len, H2.len, ia1, ia2, ld1, ld2, neq31i, he', ↓wA, wB, wZ, repeatV, RX.evs, spl, over, ones, Ex.ends, evR, oneOf, top, ↓reduceIte, Nat.reduceEqDiff, Nat.reduceLeDiff, Nat.reduceAdd, Nat.reduceSub, Nat.reduceMul, reduceCtorEq, Int.reduceEq, Int.reduceLT, Int.reduceLE, Int.reduceNeg, Int.reduceAdd, Int.reduceSub]
          rw [hok, eq_comm, decide_eq_false_iff_not]
          exact fun q => he (List.cons.inj q).1
      · have g0 : ((i : Int) < (a.length : Int)) = False := eq_false (by omega)
        rw [List.drop_eq_nil_of_le (by omega), List.drop_eq_nil_of_le (by omega)] at hok
        rw [hok]
        simp +contextual only [r0, r1, r5, g0, H1.len, H2.len, ↓wA, wB, wZ, repeatV, RX.evs, spl, over, ones, Ex.ends, evR, oneOf, top, ↓reduceIte, Nat.reduceEqDiff, Nat.reduceLeDiff, Nat.reduceAdd, Nat.reduceSub, Nat.reduceMul, reduceCtorEq, Int.reduceEq, Int.reduceLT, Int.reduceLE, Int.reduceNeg, Int.reduceAdd, Int.reduceSub]
  · have hn' : ((a.length : Int) = (b.length : Int)) = False := eq_false (by omega)
    simp +contextual only [hn', ↓wA, wB, wZ, repeatV, RX.evs, spl, over, ones, Ex.ends, evR, oneOf, top, ↓reduceIte, Nat.reduceEqDiff, Nat.reduceLeDiff, Nat.reduceAdd, Nat.reduceSub, Nat.reduceMul, reduceCtorEq, Int.reduceEq, Int.reduceLT, Int.reduceLE, Int.reduceNeg, Int.reduceAdd, Int.reduceSub]
    rw [eq_comm, decide_eq_false_iff_not]
    exact fun e => hn (congrArg List.length e)


/-! Words that are handed in. -/
theorem cells31 : Tryd.prog.cellsOf 31 = 4 := by kernel_rfl
theorem cells3 : Tryd.prog.cellsOf 3 = 1 := by kernel_rfl
theorem cells9 : Tryd.prog.cellsOf 9 = 1 := by kernel_rfl
theorem four {vs : List V} (h : vs.length = 4) : ∃ a b c d, vs = [a, b, c, d] := by
  match vs, h with
  | [a, b, c, d], _ => exact ⟨a, b, c, d, rfl⟩
theorem open_word {h : Heap} {n : Nat} {vs : List V} (H : Shp Tryd.prog h n 31 vs) : ∃ w : Wi, vs = w.enc ∧ w.text.length ≤ maxLen := by
  obtain ⟨m, rfl, h1, h2⟩ := H.struct Tryd.underlying31
  rw [cells31] at h1
  obtain ⟨a, b, c, d, rfl⟩ := four h1
  have f0 := h2 _ (List.mem_of_getElem? (i := 0) rfl)
  have f1 := h2 _ (List.mem_of_getElem? (i := 1) rfl)
  have f2 := h2 _ (List.mem_of_getElem? (i := 2) rfl)
  have f3 := h2 _ (List.mem_of_getElem? (i := 3) rfl)
  simp only [cells3, cells9, List.drop_zero, List.drop_succ_cons, List.take_succ_cons, List.take_zero] at f0 f1 f2 f3
  obtain ⟨i0, e0, _⟩ := f0.int Tryd.underlying3
  obtain ⟨i1, e1, _⟩ := f1.int Tryd.underlying3
  obtain ⟨i2, e2, _⟩ := f2.int Tryd.underlying3
  obtain ⟨s, e3, hs⟩ := f3.str Tryd.underlying9
  simp only [List.cons.injEq, and_true] at e0 e1 e2 e3
  subst e0 e1 e2 e3
  exact ⟨⟨i0, i1, i2, s⟩, rfl, hs⟩
theorem wisV_flat : ∀ ws : List Wi, wisV ws = ws.flatMap Wi.enc
  | [] => rfl
  | w :: ws => by rw [wisV, wisV_flat ws, List.flatMap_cons]
set_option maxRecDepth 100000 in
theorem open_words {h : Heap} {n : Nat} {x : V} (H : ShpV Tryd.prog h n 23 x) : ∃ ws : List Wi, SlV h 4 x ws.length (wisV ws) ∧ ws.length ≤ maxLen ∧ ∀ w ∈ ws, w.text.length ≤ maxLen := by
  obtain ⟨m, len, g1, g2, g3, g4, g5, us, k1, k2⟩ := shpv_slice H Tryd.underlying23 cells31 (by omega)
  obtain ⟨ws, q1, q2, q3⟩ := collect Wi.enc 4 (fun w : Wi => w.text.length ≤ maxLen) len us k1.1 (fun i hi => open_word (k2 i hi))
  rw [← wisV_flat] at q2
  subst q1 q2
  exact ⟨ws, k1, g5, q3⟩

/-- too large to be tried -/
def largeM (ws : List Wi) : Bool := ws.any (fun w => decide (200 < w.text.length)) || decide (200 < ws.length)
theorem large_pure (v : V) (ws : List Wi) (h : Heap) (H : SlV h 4 v ws.length (wisV ws)) (hl : ws.length ≤ maxLen) : CallsV Tryd.prog 17 [v, .int .i64 200] h (.bool (largeM ws)) h := by
  have hmax : maxLen = 9223372036854775807 := by decide
  rw [hmax] at hl
  refine pure_calls (c17_ctr rfl (wpK_of ?_))
  unfold c17
  simp +contextual only [↓wA, wB, wZ, repeatV, RX.evs, spl, over, ones, Ex.ends, evR, oneOf, top, ↓reduceIte, Nat.reduceEqDiff, Nat.reduceLeDiff, Nat.reduceAdd, Nat.reduceSub, Nat.reduceMul, reduceCtorEq, Int.reduceEq, Int.reduceLT, Int.reduceLE, Int.reduceNeg, Int.reduceAdd, Int.reduceSub]
  refine loopK_intro (fun r h' => h' = h ∧ r 0 = v ∧ r 1 = .int .i64 200 ∧ ∃ i : Nat, r 5 = .int .i64 i ∧ i ≤ ws.length ∧ largeM ws = ((ws.drop i).any (fun w => decide (200 < w.text.length)) || decide (200 < ws.length))) (fun r h' => ws.length - (r 5).toN) ?_ ?_
  · exact ⟨rfl, by simp only [↓wA, wB, wZ, repeatV, RX.evs, spl, over, ones, Ex.ends, evR, oneOf, top, ↓reduceIte, Nat.reduceEqDiff, Nat.reduceLeDiff, Nat.reduceAdd, Nat.reduceSub, Nat.reduceMul, reduceCtorEq, Int.reduceEq, Int.reduceLT, Int.reduceLE, Int.reduceNeg, Int.reduceAdd, Int.reduceSub], by simp only [↓wA, wB, wZ, repeatV, RX.evs, spl, over, ones, Ex.ends, evR, oneOf, top, ↓reduceIte, Nat.reduceEqDiff, Nat.reduceLeDiff, Nat.reduceAdd, Nat.reduceSub, Nat.reduceMul, reduceCtorEq, Int.reduceEq, Int.reduceLT, Int.reduceLE, Int.reduceNeg, Int.reduceAdd, Int.reduceSub], 0, by simp only [↓wA, wB, wZ, repeatV, RX.evs, spl, over, ones, Ex.ends, evR, oneOf, top, ↓reduceIte, Nat.reduceEqDiff, Nat.reduceLeDiff, Nat.reduceAdd, Nat.reduceSub, Nat.reduceMul, reduceCtorEq, Int.reduceEq, Int.reduceLT, Int.reduceLE, Int.reduceNeg, Int.reduceAdd, Int.reduceSub] <;> rfl, by omega, rfl⟩
  · rintro r h' ⟨rfl, r0, r1, i, r5, hi, hok⟩
    unfold c17l1
    by_cases hlt : i < ws.length
    · have g0 : ((i : Int) < (ws.length : Int)) = True := eq_true (by omega)
      obtain ⟨b1, o1, ia1, at1⟩ := H.ia (k := .i64) hlt
      have ld1 := at1.cell (i := i * 4) (j := 3) (n := 4) (wisV_at ws i hlt) (by rw [wisV_len]; omega) (by omega)
      rw [show (ws[i].enc)[3]? = some (.str ws[i].text) from rfl] at ld1
      rw [List.drop_eq_getElem_cons hlt, List.any_cons] at hok
      have w : IntKind.i64.wrap ((i : Int) + 1) = ((i + 1 : Nat) : Int) := by rw [wrap_i64 (by omega) (by omega)]; rfl
      by_cases hb : 200 < ws[i].text.length
      · have t1 : ((200 : Int) < (ws[i].text.length : Int)) = True := eq_true (by omega)
        simp +contextual only [r0, r1, r5, g0, H.len, ia1, ld1, t1, ↓wA, wB, wZ, repeatV, RX.evs, spl, over, ones, Ex.ends, evR, oneOf, top, ↓reduceIte, Nat.reduceEqDiff, Nat.reduceLeDiff, Nat.reduceAdd, Nat.reduceSub, Nat.reduceMul, reduceCtorEq, Int.reduceEq, Int.reduceLT, Int.reduceLE, Int.reduceNeg, Int.reduceAdd, Int.reduceSub]
        rw [hok, decide_eq_true hb]
        simp
      · have t1 : ((200 : Int) < (ws[i].text.length : Int)) = False := eq_false (by omega)
        simp +contextual only [r0, r1, r5, g0, H.len, ia1, ld1, t1, w, ↓wA, wB, wZ, repeatV, RX.evs, spl, over, ones, Ex.ends, evR, oneOf, top, ↓reduceIte, Nat.reduceEqDiff, Nat.reduceLeDiff, Nat.reduceAdd, Nat.reduceSub, Nat.reduceMul, reduceCtorEq, Int.reduceEq, Int.reduceLT, Int.reduceLE, Int.reduceNeg, Int.reduceAdd, Int.reduceSub]
        exact ⟨⟨i + 1, rfl, hlt, by rw [hok, decide_eq_false hb, Bool.false_or]⟩, by omega⟩
    · have g0 : ((i : Int) < (ws.length : Int)) = False := eq_false (by omega)
      rw [List.drop_eq_nil_of_le (by omega)] at hok
      have hd : ((200 : Int) < (ws.length : Int)) = (200 < ws.length) := propext ⟨fun q => by omega, fun q => by omega⟩
      simp +contextual only [r0, r1, r5, g0, H.len, hd, ↓wA, wB, wZ, repeatV, RX.evs, spl, over, ones, Ex.ends, evR, oneOf, top, ↓reduceIte, Nat.reduceEqDiff, Nat.reduceLeDiff, Nat.reduceAdd, Nat.reduceSub, Nat.reduceMul, reduceCtorEq, Int.reduceEq, Int.reduceLT, Int.reduceLE, Int.reduceNeg, Int.reduceAdd, Int.reduceSub]
      rw [hok]
      simp

theorem small_of {ws : List Wi} (h : largeM ws = false) : ws.length ≤ 200 ∧ ∀ w ∈ ws, w.text.length ≤ 200 := by
  unfold largeM at h
  rw [Bool.or_eq_false_iff, List.any_eq_false, decide_eq_false_iff_not] at h
  refine ⟨by omega, fun w hw => ?_⟩
  have := h.1 w hw
  simp only [decide_eq_true_eq] at this
  omega

/-- LexWrites -/
theorem lexWrites (v : V) (ws : List Wi) (h : Heap) (H : SlV h 4 v ws.length (wisV ws)) (hl : ws.length ≤ maxLen) : Ctr Tryd.prog 6 [v] h fun y _ => y = .bool true := by
  refine c6_ctr rfl (wpK_of ?_)
  unfold c6
  simp +contextual only [↓wA, wB, wZ, repeatV, RX.evs, spl, over, ones, Ex.ends, evR, oneOf, top, ↓reduceIte, Nat.reduceEqDiff, Nat.reduceLeDiff, Nat.reduceAdd, Nat.reduceSub, Nat.reduceMul, reduceCtorEq, Int.reduceEq, Int.reduceLT, Int.reduceLE, Int.reduceNeg, Int.reduceAdd, Int.reduceSub]
  refine callK_pure (large_pure v ws h H hl) ?_
  cases hL : largeM ws with
  | true =>
    simp +contextual only [↓wA, wB, wZ, repeatV, RX.evs, spl, over, ones, Ex.ends, evR, oneOf, top, ↓reduceIte, Nat.reduceEqDiff, Nat.reduceLeDiff, Nat.reduceAdd, Nat.reduceSub, Nat.reduceMul, reduceCtorEq, Int.reduceEq, Int.reduceLT, Int.reduceLE, Int.reduceNeg, Int.reduceAdd, Int.reduceSub]
    refine callK_intro (awake_ctr _) ?_
    rintro x h5 ⟨rfl, hx5⟩
    simp +contextual only [↓wA, wB, wZ, repeatV, RX.evs, spl, over, ones, Ex.ends, evR, oneOf, top, ↓reduceIte, Nat.reduceEqDiff, Nat.reduceLeDiff, Nat.reduceAdd, Nat.reduceSub, Nat.reduceMul, reduceCtorEq, Int.reduceEq, Int.reduceLT, Int.reduceLE, Int.reduceNeg, Int.reduceAdd, Int.reduceSub]
  | false =>
    obtain ⟨l1, l2⟩ := small_of hL
    have hN : Ext h (h.new (.ofL [] 0 false)) := (Ext.refl h).new _
    have hv0 : SlO h.next (h.new (.ofL [] 0 false)) 4 (.slice (pa h.next) 0 0 0) 0 [] := ⟨rfl, rfl, by rw [unPa_pa]; exact Nat.le_refl _, old_lt (by rw [next_new]; omega), Nat.le_refl _, by unfold top; omega, _, 0, false, get_new_self _, by simp, rfl⟩
    obtain ⟨v1, h1, q1, q2, q3, q4⟩ := app_own (by omega) hv0 (H.ext hN) (by rw [next_new]; omega) (by unfold top; omega) (by
      rw [wisV_flat]
      have : ∀ l : List Wi, ones (l.flatMap Wi.enc) = true := by
        intro l
        induction l with
        | nil => rfl
        | cons w l ih => rw [List.flatMap_cons]; exact ones_append rfl ih
      exact this ws)
    rw [Nat.zero_add, List.nil_append] at q2
    have hx1 : Ext h h1 := hN.mod_new q3 (fun b hb => hv0.base hb)
    simp +contextual only [q1, ↓wA, wB, wZ, repeatV, RX.evs, spl, over, ones, Ex.ends, evR, oneOf, top, ↓reduceIte, Nat.reduceEqDiff, Nat.reduceLeDiff, Nat.reduceAdd, Nat.reduceSub, Nat.reduceMul, reduceCtorEq, Int.reduceEq, Int.reduceLT, Int.reduceLE, Int.reduceNeg, Int.reduceAdd, Int.reduceSub]
    refine callK_intro (write_ctr v1 ws h1 q2.v (by omega) (fun w hw => by have := l2 w hw; omega)) ?_
    rintro x h2 ⟨rfl, hx2⟩
    simp +contextual only [↓wA, wB, wZ, repeatV, RX.evs, spl, over, ones, Ex.ends, evR, oneOf, top, ↓reduceIte, Nat.reduceEqDiff, Nat.reduceLeDiff, Nat.reduceAdd, Nat.reduceSub, Nat.reduceMul, reduceCtorEq, Int.reduceEq, Int.reduceLT, Int.reduceLE, Int.reduceNeg, Int.reduceAdd, Int.reduceSub]
    refine callK_intro (refwrite_ctr v ws h2 (H.ext (hx1.trans hx2)) (by omega) (fun w hw => by have := l2 w hw; omega)) ?_
    rintro x h3 ⟨rfl, hx3⟩
    simp +contextual only [↓wA, wB, wZ, repeatV, RX.evs, spl, over, ones, Ex.ends, evR, oneOf, top, ↓reduceIte, Nat.reduceEqDiff, Nat.reduceLeDiff, Nat.reduceAdd, Nat.reduceSub, Nat.reduceMul, reduceCtorEq, Int.reduceEq, Int.reduceLT, Int.reduceLE, Int.reduceNeg, Int.reduceAdd, Int.reduceSub]
    refine callK_pure (same_pure_i v1 v ws ws h3 ((q2.v.ext hx2).ext hx3) (H.ext ((hx1.trans hx2).trans hx3)) (by omega)) ?_
    have ht : decide (ws = ws) = true := decide_eq_true rfl
    simp +contextual only [ht, ↓wA, wB, wZ, repeatV, RX.evs, spl, over, ones, Ex.ends, evR, oneOf, top, ↓reduceIte, Nat.reduceEqDiff, Nat.reduceLeDiff, Nat.reduceAdd, Nat.reduceSub, Nat.reduceMul, reduceCtorEq, Int.reduceEq, Int.reduceLT, Int.reduceLE, Int.reduceNeg, Int.reduceAdd, Int.reduceSub]
    refine callK_intro (awake_ctr _) ?_
    rintro x h5 ⟨rfl, hx5⟩
    simp +contextual only [↓wA, wB, wZ, repeatV, RX.evs, spl, over, ones, Ex.ends, evR, oneOf, top, ↓reduceIte, Nat.reduceEqDiff, Nat.reduceLeDiff, Nat.reduceAdd, Nat.reduceSub, Nat.reduceMul, reduceCtorEq, Int.reduceEq, Int.reduceLT, Int.reduceLE, Int.reduceNeg, Int.reduceAdd, Int.reduceSub]
end Go.Proofs.YthcgccnbhdociaaDoor

namespace Go.Proofs.YthcgccnbhdociaaDoor
open Go Am Go.RowKit Go.Proofs Go.Lib

abbrev laidL : List (String × DataW Unit) := Rows.lexTellsRow.laid
theorem errAt_of {n : String} {g : Nat} {t : TypeId} {ms : Array (String × TypeId)} {name : String} {d : DataW Unit} {W : World} (hg : Tryd.prog.globalNamed n = some g) (hty : (Tryd.prog.globals[g]?).map (·.type) = some t) (hi : Tryd.prog.underlying t = some (.interface ms))
    (h : VarReads Tryd.prog W n (.iface name d)) : ErrAt W g := by
  obtain ⟨g', t', cs, fuel, p, h1, h2, h3, h4⟩ := h
  obtain rfl := Option.some.inj (hg.symm.trans h1)
  obtain rfl := Option.some.inj (hty.symm.trans h2)
  obtain ⟨_, u, v, hcs, _, _⟩ := iface_of_trod hi h4
  refine ⟨.iface u v, ?_, .inr ⟨u, v, rfl⟩⟩
  have := World.var?_cell hg h3 0
  rw [this, ← Array.getElem?_toList, hcs]
  rfl
theorem tab_of {n : String} {g : Nat} {t e : TypeId} {m : Nat} {k : IntKind} {zs : List Int} {W : World} (hg : Tryd.prog.globalNamed n = some g) (hty : (Tryd.prog.globals[g]?).map (·.type) = some t) (ht : Tryd.prog.underlying t = some (.array m e)) (he : Tryd.prog.underlying e = some (.int k)) (hce : Tryd.prog.cellsOf e = 1) (hct : Tryd.prog.cellsOf t = m)
    (h : VarReads Tryd.prog W n (tabData k zs)) : TabIs Tryd.prog W n k zs := by
  obtain ⟨g', t', cs, fuel, p, h1, h2, h3, h4⟩ := h
  obtain rfl := Option.some.inj (hg.symm.trans h1)
  obtain rfl := Option.some.inj (hty.symm.trans h2)
  unfold TabIs
  rw [h3, ← cells_of_tab ht he hce hct h4]

theorem u8Types : Go.Proofs.U8Types Tryd.prog Tryd.lays260_ren := Go.Proofs.U8Types.of260 Tryd.lays260
theorem u8Extra : U8Extra Tryd.prog Tryd.lays260_ren := ⟨by kernel_rfl, by kernel_rfl, by kernel_rfl, by kernel_rfl, by kernel_rfl, by kernel_rfl, by kernel_rfl⟩
theorem first_eq : (Rows.laid_unicode_utf8_first : DataW Unit) = firstData := Pinned.utf8First_eq
theorem accept_eq : (Rows.laid_unicode_utf8_acceptRanges : DataW Unit) = acceptData := by kernel_rfl
theorem pow10_eq : (Rows.laid_internal_strconv_uint64pow10 : DataW Unit) = tabData .u64 pow10Tab := by kernel_rfl
theorem g3_eq : Tryd.lays260_ren.g 3 = 0 := by kernel_rfl
theorem g4_eq : Tryd.lays260_ren.g 4 = 1 := by kernel_rfl

theorem libOk_of {l : List (String × DataW Unit)} {W : World} (hm : ∀ p ∈ laidL, p ∈ l) (hL : laidMet Tryd.prog l W) (hsh : W.ShapedOpen Tryd.prog) : LibOk W := by
  have r : ∀ (n : String) (d : DataW Unit), (n, d) ∈ laidL → VarReads Tryd.prog W n d := fun n d h => laidMet.reads hL (hm _ h)
  have hf := r "unicode/utf8.first" Rows.laid_unicode_utf8_first (by simp [laidL, Rows.lexTellsRow])
  have ha := r "unicode/utf8.acceptRanges" Rows.laid_unicode_utf8_acceptRanges (by simp [laidL, Rows.lexTellsRow])
  have hs := r "strconv.ErrSyntax" Rows.laid_strconv_ErrSyntax (by simp [laidL, Rows.lexTellsRow])
  have hr := r "strconv.ErrRange" Rows.laid_strconv_ErrRange (by simp [laidL, Rows.lexTellsRow])
  have hp := r "internal/strconv.uint64pow10" Rows.laid_internal_strconv_uint64pow10 (by simp [laidL, Rows.lexTellsRow])
  rw [first_eq] at hf
  rw [accept_eq] at ha
  rw [pow10_eq] at hp
  refine ⟨?_, ?_, ?_, ?_, ?_⟩
  · have := Go.Proofs.utf8Tabs_of_readsT u8Types u8Extra hf ha
    rwa [g3_eq, g4_eq] at this
  · exact Go.Proofs.cell_of_shapedOpen_int hsh (g := 2) (t := 3) (zero := #[.int .i64 0]) (of_decide_eq_true (by kernel_rfl)) (by kernel_rfl) rfl (by kernel_rfl) (by kernel_rfl) Tryd.underlying3
  · exact errAt_of (n := "strconv.ErrSyntax") (t := 81) (by kernel_rfl) (by kernel_rfl) Tryd.underlying81 hs
  · exact errAt_of (n := "strconv.ErrRange") (t := 81) (by kernel_rfl) (by kernel_rfl) Tryd.underlying81 hr
  · exact tab_of (g := 3) (t := 115) (e := 85) (m := 20) (by kernel_rfl) (by kernel_rfl) (by kernel_rfl) (by kernel_rfl) (by kernel_rfl) (by kernel_rfl) hp
end Go.Proofs.YthcgccnbhdociaaDoor
