/- The chapter's functions, walked by the abstract machine: plain lemmas, no condition. -/
import Derived.Test.YthcgccnbhdociaaDoorM5
import Derived.Shelf.Strings.OnBuilder
import Derived.Lib.ItoaLen

namespace Go.Proofs.YthcgccnbhdociaaDoor
open Go Am
set_option linter.unusedSectionVars false
set_option linter.unusedSimpArgs false
set_option linter.unusedVariables false

theorem u8_back (c : UInt8) : ((c.toNat : Int)).toNat.toUInt8 = c := by
  rw [Int.toNat_natCast]
  simp
theorem u8_eq (c : UInt8) (n : Nat) (hn : n < 256) : ((c.toNat : Int) = (n : Int)) = (c = n.toUInt8) := by
  apply propext
  constructor
  · intro q
    have : c.toNat = n := by omega
    rw [← UInt8.toNat_inj, this]
    simp
    omega
  · intro q
    subst q
    simp
    omega
theorem esc_ix (c : UInt8) : Lib.indexByte [110, 116, 34, 92] c = if c = 110 then 0 else if c = 116 then 1 else if c = 34 then 2 else if c = 92 then 3 else -1 := by
  simp only [Lib.indexByte, beq_iff_eq]
  by_cases h1 : c = 110
  · subst h1; decide
  · by_cases h2 : c = 116
    · subst h2; decide
    · by_cases h3 : c = 34
      · subst h3; decide
      · by_cases h4 : c = 92
        · subst h4; decide
        · have e1 : ¬ (110 : UInt8) = c := fun q => h1 q.symm
          have e2 : ¬ (116 : UInt8) = c := fun q => h2 q.symm
          have e3 : ¬ (34 : UInt8) = c := fun q => h3 q.symm
          have e4 : ¬ (92 : UInt8) = c := fun q => h4 q.symm
          simp only [h1, h2, h3, h4, e1, e2, e3, e4, if_false]
          rfl

theorem digitVal_of {c : UInt8} (h : dig c = true) : Lib.digitVal c = some (c.toNat - 48) := by
  unfold Lib.digitVal
  unfold dig digitB at h
  simp only [Bool.and_eq_true, decide_eq_true_eq] at h
  rw [if_pos (by omega)]
theorem atoi3 {a b c : UInt8} (h1 : dig a = true) (h2 : dig b = true) (h3 : dig c = true) : Lib.atoi [a, b, c] = some ((valM [a, b, c] : Nat) : Int) := by
  have ha := h1
  unfold dig digitB at ha
  simp only [Bool.and_eq_true, decide_eq_true_eq] at ha
  have n1 : (a == 45) = false := by rw [beq_eq_false_iff_ne]; rintro rfl; revert ha; decide
  have n2 : (a == 43) = false := by rw [beq_eq_false_iff_ne]; rintro rfl; revert ha; decide
  simp [Lib.atoi, n1, n2, Lib.decNat, Lib.decFrom, digitVal_of h1, digitVal_of h2, digitVal_of h3, valM]
  omega
end Go.Proofs.YthcgccnbhdociaaDoor

namespace Go.Proofs.YthcgccnbhdociaaDoor
open Go Am
set_option linter.unusedSectionVars false
set_option linter.unusedSimpArgs false
set_option linter.unusedVariables false

theorem escape_ctr (s : List UInt8) (a0 : Nat) (b : Pa) (h : Heap) (hb : h.get b = scB s a0 0) (h0 : a0 < s.length) (hs : s.length ≤ 100000) (hob : Old h b) :
    Ctr Tryd.prog 76 [.ptr b 0] h fun x h' => Mod (fun q => q = b) h h' ∧ match escM (s.drop (a0 + 1)) with
      | some (c, n) => x = .int .u8 (c.toNat : Int) ∧ h'.get b = scB s ((a0 + 1 + n : Nat) : Int) 0 ∧ a0 + 1 + n ≤ s.length
      | none => x = .int .u8 0 ∧ h'.get b = scB s ((a0 + 1 : Nat) : Int) 252 := by
  refine c76_ctr rfl (wpK_of ?_)
  unfold c76
  unfold scB at hb ⊢
  have w1 : IntKind.i64.wrap ((a0 : Int) + 1) = ((a0 + 1 : Nat) : Int) := by rw [wrap_i64 (by omega) (by omega)]; rfl
  have f0 : (0 ≤ ((a0 + 1 : Nat) : Int)) = True := eq_true (by omega)
  have f1 : (((a0 + 1 : Nat) : Int) ≤ (s.length : Int)) = True := eq_true (by omega)
  have hlR : (s.drop (a0 + 1)).length = s.length - (a0 + 1) := List.length_drop
  have z0 : ((0 : Int) ≤ 0) = True := eq_true (by omega)
  have mm : ∀ v, Am.Mod (fun q => q = b) h ((h.set b v)) := fun v => (Mod.refl (fun q => q = b) h).set (fun _ => rfl) _
  cases hR : s.drop (a0 + 1) with
  | nil =>
    simp +contextual only [hb, w1, f0, f1, Int.toNat_natCast, hR, List.length_nil, Int.natCast_zero, ↓wA, wB, wZ, repeatV, RX.evs, spl, over, ones, Ex.ends, evR, oneOf, top, ↓reduceIte, Nat.reduceEqDiff, Nat.reduceLeDiff, Nat.reduceAdd, Nat.reduceSub, Nat.reduceMul, reduceCtorEq, Int.reduceEq, Int.reduceLT, Int.reduceLE, Int.reduceNeg, Int.reduceAdd, Int.reduceSub]
    refine ⟨(mm _).set (fun _ => rfl) _, ?_⟩
    simp only [escM, get_set, if_true, true_and]
  | cons c r =>
    rw [hR] at hlR
    rw [List.length_cons] at hlR
    have e0 : (c :: r = []) = False := eq_false (by simp)
    have f2 : ((0 : Int) < ((r.length + 1 : Nat) : Int)) = True := eq_true (by omega)
    simp +contextual only [hb, w1, f0, f1, f2, e0, Int.toNat_natCast, hR, Int.reduceToNat, z0, ↓wA, wB, wZ, repeatV, RX.evs, spl, over, ones, Ex.ends, evR, oneOf, top, ↓reduceIte, Nat.reduceEqDiff, Nat.reduceLeDiff, Nat.reduceAdd, Nat.reduceSub, Nat.reduceMul, reduceCtorEq, Int.reduceEq, Int.reduceLT, Int.reduceLE, Int.reduceNeg, Int.reduceAdd, Int.reduceSub]
    refine callK_pure (index23 _ _ _) ?_
    rw [u8_back, esc_ix]
    have w2 : IntKind.i64.wrap (((a0 + 1 : Nat) : Int) + 1) = ((a0 + 2 : Nat) : Int) := by rw [wrap_i64 (by omega) (by omega)]; omega
    by_cases c1 : c = 110
    · subst c1
      simp +contextual only [hb, w1, w2, f0, f1, f2, e0, Int.toNat_natCast, hR, Int.reduceToNat, z0, List.length_cons, List.length_nil, Nat.reduceAdd, Int.reduceLT, Int.cast_ofNat_Int, ↓wA, wB, wZ, repeatV, RX.evs, spl, over, ones, Ex.ends, evR, oneOf, top, ↓reduceIte, Nat.reduceEqDiff, Nat.reduceLeDiff, Nat.reduceAdd, Nat.reduceSub, Nat.reduceMul, reduceCtorEq, Int.reduceEq, Int.reduceLT, Int.reduceLE, Int.reduceNeg, Int.reduceAdd, Int.reduceSub]
      refine ⟨(mm _).set (fun _ => rfl) _, rfl, ?_⟩
      simp only [get_set, if_true]
      refine ⟨trivial, by omega⟩
    by_cases c2 : c = 116
    · subst c2
      simp +contextual only [hb, w1, w2, f0, f1, f2, e0, Int.toNat_natCast, hR, Int.reduceToNat, z0, List.length_cons, List.length_nil, Nat.reduceAdd, Int.reduceLT, Int.cast_ofNat_Int, c1, ↓wA, wB, wZ, repeatV, RX.evs, spl, over, ones, Ex.ends, evR, oneOf, top, ↓reduceIte, Nat.reduceEqDiff, Nat.reduceLeDiff, Nat.reduceAdd, Nat.reduceSub, Nat.reduceMul, reduceCtorEq, Int.reduceEq, Int.reduceLT, Int.reduceLE, Int.reduceNeg, Int.reduceAdd, Int.reduceSub]
      refine ⟨(mm _).set (fun _ => rfl) _, rfl, ?_⟩
      simp only [get_set, if_true]
      refine ⟨trivial, by omega⟩
    by_cases c3 : c = 34
    · subst c3
      simp +contextual only [hb, w1, w2, f0, f1, f2, e0, Int.toNat_natCast, hR, Int.reduceToNat, z0, List.length_cons, List.length_nil, Nat.reduceAdd, Int.reduceLT, Int.cast_ofNat_Int, c1, c2, ↓wA, wB, wZ, repeatV, RX.evs, spl, over, ones, Ex.ends, evR, oneOf, top, ↓reduceIte, Nat.reduceEqDiff, Nat.reduceLeDiff, Nat.reduceAdd, Nat.reduceSub, Nat.reduceMul, reduceCtorEq, Int.reduceEq, Int.reduceLT, Int.reduceLE, Int.reduceNeg, Int.reduceAdd, Int.reduceSub]
      refine ⟨(mm _).set (fun _ => rfl) _, rfl, ?_⟩
      simp only [get_set, if_true]
      refine ⟨trivial, by omega⟩
    by_cases c4 : c = 92
    · subst c4
      simp +contextual only [hb, w1, w2, f0, f1, f2, e0, Int.toNat_natCast, hR, Int.reduceToNat, z0, List.length_cons, List.length_nil, Nat.reduceAdd, Int.reduceLT, Int.cast_ofNat_Int, c1, c2, c3, ↓wA, wB, wZ, repeatV, RX.evs, spl, over, ones, Ex.ends, evR, oneOf, top, ↓reduceIte, Nat.reduceEqDiff, Nat.reduceLeDiff, Nat.reduceAdd, Nat.reduceSub, Nat.reduceMul, reduceCtorEq, Int.reduceEq, Int.reduceLT, Int.reduceLE, Int.reduceNeg, Int.reduceAdd, Int.reduceSub]
      refine ⟨(mm _).set (fun _ => rfl) _, rfl, ?_⟩
      simp only [get_set, if_true]
      refine ⟨trivial, by omega⟩
    match r, hR, hlR, f2, e0 with
    | [], hR, hlR, f2, e0 =>
      simp +contextual only [hb, w1, w2, f0, f1, f2, e0, Int.toNat_natCast, hR, Int.reduceToNat, z0, List.length_cons, List.length_nil, Nat.reduceAdd, Int.reduceLT, Int.cast_ofNat_Int, c1, c2, c3, c4, ↓wA, wB, wZ, repeatV, RX.evs, spl, over, ones, Ex.ends, evR, oneOf, top, ↓reduceIte, Nat.reduceEqDiff, Nat.reduceLeDiff, Nat.reduceAdd, Nat.reduceSub, Nat.reduceMul, reduceCtorEq, Int.reduceEq, Int.reduceLT, Int.reduceLE, Int.reduceNeg, Int.reduceAdd, Int.reduceSub]
      refine ⟨(mm _).set (fun _ => rfl) _, ?_⟩
      simp [escM, c1, c2, c3, c4, get_set]
    | [_], hR, hlR, f2, e0 =>
      simp +contextual only [hb, w1, w2, f0, f1, f2, e0, Int.toNat_natCast, hR, Int.reduceToNat, z0, List.length_cons, List.length_nil, Nat.reduceAdd, Int.reduceLT, Int.cast_ofNat_Int, c1, c2, c3, c4, ↓wA, wB, wZ, repeatV, RX.evs, spl, over, ones, Ex.ends, evR, oneOf, top, ↓reduceIte, Nat.reduceEqDiff, Nat.reduceLeDiff, Nat.reduceAdd, Nat.reduceSub, Nat.reduceMul, reduceCtorEq, Int.reduceEq, Int.reduceLT, Int.reduceLE, Int.reduceNeg, Int.reduceAdd, Int.reduceSub]
      refine ⟨(mm _).set (fun _ => rfl) _, ?_⟩
      simp [escM, c1, c2, c3, c4, get_set]
    | d1 :: d2 :: r', hR, hlR, f2, e0 =>
      simp only [List.length_cons] at hlR
      have g3 : ((3 : Int) ≤ ((r'.length + 3 : Nat) : Int)) = True := eq_true (by omega)
      have g2 : ((2 : Int) < ((r'.length + 3 : Nat) : Int)) = True := eq_true (by omega)
      have g1 : ((1 : Int) < ((r'.length + 3 : Nat) : Int)) = True := eq_true (by omega)
      have g0 : ((0 : Int) < ((r'.length + 3 : Nat) : Int)) = True := eq_true (by omega)
      have em : escM (c :: d1 :: d2 :: r') = if dig c ∧ dig d1 ∧ dig d2 ∧ valM [c, d1, d2] < 256 then some ((valM [c, d1, d2]).toUInt8, 3) else none := by
        simp [escM, c1, c2, c3, c4]
      rw [em]
      simp +contextual only [hb, w1, w2, f0, f1, g0, g1, g2, g3, e0, Int.toNat_natCast, hR, Int.reduceToNat, z0, List.length_cons, List.length_nil, Nat.reduceAdd, Int.reduceLT, Int.cast_ofNat_Int, c1, c2, c3, c4, ↓wA, wB, wZ, repeatV, RX.evs, spl, over, ones, Ex.ends, evR, oneOf, top, ↓reduceIte, Nat.reduceEqDiff, Nat.reduceLeDiff, Nat.reduceAdd, Nat.reduceSub, Nat.reduceMul, reduceCtorEq, Int.reduceEq, Int.reduceLT, Int.reduceLE, Int.reduceNeg, Int.reduceAdd, Int.reduceSub]
      refine callK_pure (digit_pure _ _) ?_
      have dg : ∀ x : UInt8, digitB (x.toNat : Int) = dig x := fun _ => rfl
      simp only [dg]
      cases hd0 : dig c with
      | false =>
        simp +contextual only [hb, w1, w2, f0, f1, g0, g1, g2, g3, e0, Int.toNat_natCast, hR, Int.reduceToNat, z0, List.length_cons, List.length_nil, Nat.reduceAdd, Int.reduceLT, Int.cast_ofNat_Int, c1, c2, c3, c4, false_and, Bool.false_eq_true, ↓wA, wB, wZ, repeatV, RX.evs, spl, over, ones, Ex.ends, evR, oneOf, top, ↓reduceIte, Nat.reduceEqDiff, Nat.reduceLeDiff, Nat.reduceAdd, Nat.reduceSub, Nat.reduceMul, reduceCtorEq, Int.reduceEq, Int.reduceLT, Int.reduceLE, Int.reduceNeg, Int.reduceAdd, Int.reduceSub]
        exact (mm _).set (fun _ => rfl) _
      | true =>
        simp +contextual only [hb, w1, w2, f0, f1, g0, g1, g2, g3, e0, Int.toNat_natCast, hR, Int.reduceToNat, z0, List.length_cons, List.length_nil, Nat.reduceAdd, Int.reduceLT, Int.cast_ofNat_Int, c1, c2, c3, c4, ↓wA, wB, wZ, repeatV, RX.evs, spl, over, ones, Ex.ends, evR, oneOf, top, ↓reduceIte, Nat.reduceEqDiff, Nat.reduceLeDiff, Nat.reduceAdd, Nat.reduceSub, Nat.reduceMul, reduceCtorEq, Int.reduceEq, Int.reduceLT, Int.reduceLE, Int.reduceNeg, Int.reduceAdd, Int.reduceSub]
        refine callK_pure (digit_pure _ _) ?_
        simp only [dg]
        cases hd1 : dig d1 with
        | false =>
          simp +contextual only [hb, w1, w2, f0, f1, g0, g1, g2, g3, e0, Int.toNat_natCast, hR, Int.reduceToNat, z0, List.length_cons, List.length_nil, Nat.reduceAdd, Int.reduceLT, Int.cast_ofNat_Int, c1, c2, c3, c4, false_and, and_false, Bool.false_eq_true, ↓wA, wB, wZ, repeatV, RX.evs, spl, over, ones, Ex.ends, evR, oneOf, top, ↓reduceIte, Nat.reduceEqDiff, Nat.reduceLeDiff, Nat.reduceAdd, Nat.reduceSub, Nat.reduceMul, reduceCtorEq, Int.reduceEq, Int.reduceLT, Int.reduceLE, Int.reduceNeg, Int.reduceAdd, Int.reduceSub]
          exact (mm _).set (fun _ => rfl) _
        | true =>
          simp +contextual only [hb, w1, w2, f0, f1, g0, g1, g2, g3, e0, Int.toNat_natCast, hR, Int.reduceToNat, z0, List.length_cons, List.length_nil, Nat.reduceAdd, Int.reduceLT, Int.cast_ofNat_Int, c1, c2, c3, c4, ↓wA, wB, wZ, repeatV, RX.evs, spl, over, ones, Ex.ends, evR, oneOf, top, ↓reduceIte, Nat.reduceEqDiff, Nat.reduceLeDiff, Nat.reduceAdd, Nat.reduceSub, Nat.reduceMul, reduceCtorEq, Int.reduceEq, Int.reduceLT, Int.reduceLE, Int.reduceNeg, Int.reduceAdd, Int.reduceSub]
          refine callK_pure (digit_pure _ _) ?_
          simp only [dg]
          cases hd2 : dig d2 with
          | false =>
            simp +contextual only [hb, w1, w2, f0, f1, g0, g1, g2, g3, e0, Int.toNat_natCast, hR, Int.reduceToNat, z0, List.length_cons, List.length_nil, Nat.reduceAdd, Int.reduceLT, Int.cast_ofNat_Int, c1, c2, c3, c4, false_and, and_false, Bool.false_eq_true, ↓wA, wB, wZ, repeatV, RX.evs, spl, over, ones, Ex.ends, evR, oneOf, top, ↓reduceIte, Nat.reduceEqDiff, Nat.reduceLeDiff, Nat.reduceAdd, Nat.reduceSub, Nat.reduceMul, reduceCtorEq, Int.reduceEq, Int.reduceLT, Int.reduceLE, Int.reduceNeg, Int.reduceAdd, Int.reduceSub]
            exact (mm _).set (fun _ => rfl) _
          | true =>
            have z3 : ((0 : Int) ≤ 3) = True := eq_true (by omega)
            simp +contextual only [hb, w1, w2, f0, f1, g0, g1, g2, g3, z3, e0, Int.toNat_natCast, hR, Int.reduceToNat, z0, List.length_cons, List.length_nil, Nat.reduceAdd, Int.reduceLT, Int.cast_ofNat_Int, c1, c2, c3, c4, ↓wA, wB, wZ, repeatV, RX.evs, spl, over, ones, Ex.ends, evR, oneOf, top, ↓reduceIte, Nat.reduceEqDiff, Nat.reduceLeDiff, Nat.reduceAdd, Nat.reduceSub, Nat.reduceMul, reduceCtorEq, Int.reduceEq, Int.reduceLT, Int.reduceLE, Int.reduceNeg, Int.reduceAdd, Int.reduceSub]
            refine callK_pure (atoi_calls [c, d1, d2] _ (by simp) (atoi3 hd0 hd1 hd2) _) ?_
            have w3 : IntKind.i64.wrap (((a0 + 1 : Nat) : Int) + 3) = ((a0 + 4 : Nat) : Int) := by rw [wrap_i64 (by omega) (by omega)]; omega
            generalize hv : valM [c, d1, d2] = v
            by_cases hv2 : (v : Int) < 256
            · have w4 : IntKind.u8.wrap (v : Int) = ((v.toUInt8).toNat : Int) := by
                simp [IntKind.wrap, IntKind.bits, IntKind.signed]
              have hv3 : v < 256 := by omega
              simp +contextual only [hb, w1, w2, w3, w4, f0, f1, g0, g1, g2, g3, e0, hv2, hv3, Int.toNat_natCast, hR, Int.reduceToNat, z0, List.length_cons, List.length_nil, Nat.reduceAdd, Int.reduceLT, Int.cast_ofNat_Int, c1, c2, c3, c4, and_self, true_and, ↓wA, wB, wZ, repeatV, RX.evs, spl, over, ones, Ex.ends, evR, oneOf, top, ↓reduceIte, Nat.reduceEqDiff, Nat.reduceLeDiff, Nat.reduceAdd, Nat.reduceSub, Nat.reduceMul, reduceCtorEq, Int.reduceEq, Int.reduceLT, Int.reduceLE, Int.reduceNeg, Int.reduceAdd, Int.reduceSub]
              refine ⟨(mm _).set (fun _ => rfl) _, ?_⟩
              first | omega | (refine ⟨?_, by omega⟩; simp [get_set]) | skip
            · have hv3 : ¬ v < 256 := by omega
              simp +contextual only [hb, w1, w2, w3, f0, f1, g0, g1, g2, g3, e0, hv2, hv3, Int.toNat_natCast, hR, Int.reduceToNat, z0, List.length_cons, List.length_nil, Nat.reduceAdd, Int.reduceLT, Int.cast_ofNat_Int, c1, c2, c3, c4, and_false, ↓wA, wB, wZ, repeatV, RX.evs, spl, over, ones, Ex.ends, evR, oneOf, top, ↓reduceIte, Nat.reduceEqDiff, Nat.reduceLeDiff, Nat.reduceAdd, Nat.reduceSub, Nat.reduceMul, reduceCtorEq, Int.reduceEq, Int.reduceLT, Int.reduceLE, Int.reduceNeg, Int.reduceAdd, Int.reduceSub]
              exact (mm _).set (fun _ => rfl) _
end Go.Proofs.YthcgccnbhdociaaDoor

namespace Go.Proofs.YthcgccnbhdociaaDoor
open Go Am
set_option linter.unusedSectionVars false
set_option linter.unusedSimpArgs false
set_option linter.unusedVariables false

theorem u8_lt (c : UInt8) (n : Nat) (hn : n < 256) : ((c.toNat : Int) < (n : Int)) = (c < n.toUInt8) := by
  apply propext
  rw [UInt8.lt_iff_toNat_lt]
  have : (n.toUInt8).toNat = n := by simp; omega
  rw [this]
  omega
theorem text_ctr (s : List UInt8) (a0 : Nat) (b : Pa) (h : Heap) (hb : h.get b = scB s a0 0) (h0 : a0 < s.length) (hs : s.length ≤ 100000) (hob : Old h b) :
    Ctr Tryd.prog 46 [.ptr b 0] h (WOut s a0 b h (strM (s.drop (a0 + 1)))) := by
  refine c46_ctr rfl (wpK_of ?_)
  unfold c46
  have nb : (b = pa h.next) = False := new_ne hob (Nat.le_refl _)
  have bn : (pa h.next = b) = False := by rw [← nb]; exact propext eq_comm
  have w1 : IntKind.i64.wrap ((a0 : Int) + 1) = ((a0 + 1 : Nat) : Int) := by rw [wrap_i64 (by omega) (by omega)]; rfl
  unfold scB at hb
  simp +contextual only [hb, nb, bn, w1, ↓wA, wB, wZ, repeatV, RX.evs, spl, over, ones, Ex.ends, evR, oneOf, top, ↓reduceIte, Nat.reduceEqDiff, Nat.reduceLeDiff, Nat.reduceAdd, Nat.reduceSub, Nat.reduceMul, reduceCtorEq, Int.reduceEq, Int.reduceLT, Int.reduceLE, Int.reduceNeg, Int.reduceAdd, Int.reduceSub]
  have notb : ∀ {v : V} {h' : Heap} {n : Nat} {us : List V}, SlO (h.next + 1) h' 1 v n us → ∀ q, v.blk q → ¬ (fun q => q = b) q := by
    intro v h' n us hS q hq he
    have h1 := hS.base hq
    rw [show q = b from he] at h1
    have h2 : unPa b < h.next := hob
    omega
  have blkne : ∀ {v : V} {h' : Heap} {n : Nat} {us : List V}, SlO (h.next + 1) h' 1 v n us → ∀ i, i < h.next + 1 → ¬ v.blk (pa i) := by
    intro v h' n us hS i hi hq
    have h1 := hS.base hq
    rw [unPa_pa] at h1
    omega
  refine loopK_intro (fun r h' => r 0 = .ptr b 0 ∧ r 2 = .ptr (pa h.next) 0 ∧ ∃ (a : Nat) (e : Int) (bs : List UInt8) (v : V), r 3 = v ∧ h'.get b = .ofL [.str s, .int .i64 a, .int .i64 e] 0 false ∧ a ≤ s.length ∧ a0 + 1 ≤ a ∧ bs.length ≤ a ∧
      h'.get (pa h.next) = .ofL [.int .i64 0, .int .i64 0, .int .i64 0, .str []] 0 false ∧ Mod (fun q => q = b) h h' ∧ h.next + 1 ≤ h'.next ∧ SlO (h.next + 1) h' 1 v bs.length (bytesV bs) ∧
      ((e = 0 ∧ textM (s.drop (a0 + 1)) = (textM (s.drop a)).map fun q => (bs ++ q.1, q.2 + (a - (a0 + 1)))) ∨ (e = 252 ∧ textM (s.drop (a0 + 1)) = none)))
    (fun r h' => (s.length - ((ld1B (h'.get b) 1).getD .bad).toN) + (252 - ((ld1B (h'.get b) 2).getD .bad).toN)) ?_ ?_
  · refine ⟨by simp only [nb, bn, ↓wA, wB, wZ, repeatV, RX.evs, spl, over, ones, Ex.ends, evR, oneOf, top, ↓reduceIte, Nat.reduceEqDiff, Nat.reduceLeDiff, Nat.reduceAdd, Nat.reduceSub, Nat.reduceMul, reduceCtorEq, Int.reduceEq, Int.reduceLT, Int.reduceLE, Int.reduceNeg, Int.reduceAdd, Int.reduceSub], by simp only [nb, bn, ↓wA, wB, wZ, repeatV, RX.evs, spl, over, ones, Ex.ends, evR, oneOf, top, ↓reduceIte, Nat.reduceEqDiff, Nat.reduceLeDiff, Nat.reduceAdd, Nat.reduceSub, Nat.reduceMul, reduceCtorEq, Int.reduceEq, Int.reduceLT, Int.reduceLE, Int.reduceNeg, Int.reduceAdd, Int.reduceSub], a0 + 1, 0, [], .nilslice, by simp only [nb, bn, ↓wA, wB, wZ, repeatV, RX.evs, spl, over, ones, Ex.ends, evR, oneOf, top, ↓reduceIte, Nat.reduceEqDiff, Nat.reduceLeDiff, Nat.reduceAdd, Nat.reduceSub, Nat.reduceMul, reduceCtorEq, Int.reduceEq, Int.reduceLT, Int.reduceLE, Int.reduceNeg, Int.reduceAdd, Int.reduceSub], by simp only [nb, bn, ↓wA, wB, wZ, repeatV, RX.evs, spl, over, ones, Ex.ends, evR, oneOf, top, ↓reduceIte, Nat.reduceEqDiff, Nat.reduceLeDiff, Nat.reduceAdd, Nat.reduceSub, Nat.reduceMul, reduceCtorEq, Int.reduceEq, Int.reduceLT, Int.reduceLE, Int.reduceNeg, Int.reduceAdd, Int.reduceSub], by omega, by omega, by simp, by simp only [nb, bn, ↓wA, wB, wZ, repeatV, RX.evs, spl, over, ones, Ex.ends, evR, oneOf, top, ↓reduceIte, Nat.reduceEqDiff, Nat.reduceLeDiff, Nat.reduceAdd, Nat.reduceSub, Nat.reduceMul, reduceCtorEq, Int.reduceEq, Int.reduceLT, Int.reduceLE, Int.reduceNeg, Int.reduceAdd, Int.reduceSub], ?_, ?_, ⟨rfl, rfl⟩, .inl ⟨rfl, ?_⟩⟩
    · exact (((Ext.refl h).new _).mod (fun q => q = b)).self _
    · rw [next_set, next_new]; exact Nat.le_refl _
    · rw [Nat.sub_self]
      cases textM (s.drop (a0 + 1)) <;> rfl
  · rintro r h' ⟨r0, r2, a, e, bs, v, r3, hg, k1, k0, kb, hz, hm, hnx, hS, hok⟩
    unfold c46l1
    have hobn : Old h' b := hm.old hob
    have fin : ∀ (h2 : Heap) (a' : Int), textM (s.drop (a0 + 1)) = none → Mod (fun q => q = b) h h2 → h2.get b = .ofL [.str s, .int .i64 a', .int .i64 252] 0 false →
        WOut s a0 b h (strM (s.drop (a0 + 1))) (.agg [.int .i64 0, .int .i64 0, .int .i64 0, .str []]) (h2.set (pa h.next) (.ofL [.int .i64 0, .int .i64 0, .int .i64 0, .str []] 0 false)) := by
      intro h2 a' hn hm2 hg2
      unfold strM
      rw [hn]
      refine ⟨hm2.set (fun q => absurd (show unPa (pa h.next) < h.next from q) (by rw [unPa_pa]; omega)) _, _, _, _, rfl, by decide, a', ?_⟩
      rw [get_set, if_neg (by rw [bn]; exact id), hg2]
      rfl
    have step : ∀ (h2 : Heap), Mod (fun q => q = b) h h2 → h'.next ≤ h2.next → SlO (h.next + 1) h2 1 v bs.length (bytesV bs) → ∀ (c : UInt8), ∃ v3 h3, appV 1 v (.slice (pa h2.next) 0 1 1) (h2.new (.ofL [.int .u8 (c.toNat : Int)] 0 false)) = .val v3 h3 ∧ SlO (h.next + 1) h3 1 v3 (bs ++ [c]).length (bytesV (bs ++ [c])) ∧ Mod (fun q => q = b) h h3 ∧ h.next + 1 ≤ h3.next ∧ h3.get b = h2.get b ∧ h3.get (pa h.next) = h2.get (pa h.next) := by
      intro h2 hm2 hnx2 hS2 c
      obtain ⟨v3, h3, q1, q2, q3, q4, q5⟩ := app_one (cs := [.int .u8 (c.toNat : Int)]) (by omega) hS2 (by omega) (by unfold top; omega) rfl rfl
      refine ⟨v3, h3, q1, by rw [List.length_append, bytesV_append]; exact q2, hm2.then_new q3 (fun q hq => Nat.le_trans (Nat.le_succ _) (hS2.base hq)), by omega, ?_, ?_⟩
      · exact q3.get _ (hm2.old hob) (fun hq => notb hS2 _ hq rfl)
      · exact q3.get _ (old_lt (by omega)) (blkne hS2 _ (by omega))
    rcases hok with ⟨rfl, hok⟩ | ⟨rfl, hok⟩
    · by_cases hend : (s.length : Int) ≤ (a : Int)
      · have ha : a = s.length := by omega
        rw [ha, List.drop_length, textM_nil] at hok
        simp +contextual only [r0, r2, r3, hg, hend, hz, nb, bn, ↓wA, wB, wZ, repeatV, RX.evs, spl, over, ones, Ex.ends, evR, oneOf, top, ↓reduceIte, Nat.reduceEqDiff, Nat.reduceLeDiff, Nat.reduceAdd, Nat.reduceSub, Nat.reduceMul, reduceCtorEq, Int.reduceEq, Int.reduceLT, Int.reduceLE, Int.reduceNeg, Int.reduceAdd, Int.reduceSub]
        exact fin _ _ hok (hm.set (fun _ => rfl) _) (by rw [get_set, if_pos rfl])
      · have hlt : a < s.length := by omega
        rw [drop_cons hlt, textM_cons] at hok
        have f0 : (0 ≤ (a : Int)) = True := eq_true (by omega)
        have f1 : ((a : Int) < (s.length : Int)) = True := eq_true (by omega)
        have w2 : IntKind.i64.wrap ((a : Int) + 1) = ((a + 1 : Nat) : Int) := by rw [wrap_i64 (by omega) (by omega)]; rfl
        have e34 : (((s[a]).toNat : Int) = 34) = (s[a] = 34) := u8_eq _ 34 (by omega)
        have e92 : (((s[a]).toNat : Int) = 92) = (s[a] = 92) := u8_eq _ 92 (by omega)
        have e127 : (((s[a]).toNat : Int) = 127) = (s[a] = 127) := u8_eq _ 127 (by omega)
        have l32 : (((s[a]).toNat : Int) < 32) = (s[a] < 32) := u8_lt _ 32 (by omega)
        by_cases c1 : s[a] = 34
        · rw [if_pos c1] at hok
          replace c1 : (s[a] = 34) = True := eq_true c1
          simp only [Option.map_some, List.append_nil] at hok
          by_cases hbig : (4096 : Int) < (bs.length : Int)
          · have hS2 : ∀ k k2, SlO (h.next + 1) ((h'.set b k).set b k2) 1 v bs.length (bytesV bs) := fun k k2 => hS.mod (((Mod.refl (fun q => q = b) h').set (fun _ => rfl) _).set (fun _ => rfl) _) (notb hS)
            simp +contextual only [r0, r2, r3, hg, hend, hz, nb, bn, f0, f1, w2, e34, c1, hS.v.len, hbig, convStr_own (hS2 _ _), List.getElem?_eq_getElem hlt, Int.toNat_natCast, ↓wA, wB, wZ, repeatV, RX.evs, spl, over, ones, Ex.ends, evR, oneOf, top, ↓reduceIte, Nat.reduceEqDiff, Nat.reduceLeDiff, Nat.reduceAdd, Nat.reduceSub, Nat.reduceMul, reduceCtorEq, Int.reduceEq, Int.reduceLT, Int.reduceLE, Int.reduceNeg, Int.reduceAdd, Int.reduceSub]
            refine ⟨((hm.set (fun _ => rfl) _).set (fun _ => rfl) _).set (fun q => absurd (show unPa (pa h.next) < h.next from q) (by rw [unPa_pa]; omega)) _, _, _, _, rfl, ?_⟩
            unfold strM
            rw [hok]
            simp only
            rw [if_pos (by omega)]
            refine ⟨by decide, ((a + 1 : Nat) : Int), ?_⟩
            simp only [scB, nb, bn, ↓wA, wB, wZ, repeatV, RX.evs, spl, over, ones, Ex.ends, evR, oneOf, top, ↓reduceIte, Nat.reduceEqDiff, Nat.reduceLeDiff, Nat.reduceAdd, Nat.reduceSub, Nat.reduceMul, reduceCtorEq, Int.reduceEq, Int.reduceLT, Int.reduceLE, Int.reduceNeg, Int.reduceAdd, Int.reduceSub]
          · have hS2 : ∀ k, SlO (h.next + 1) (h'.set b k) 1 v bs.length (bytesV bs) := fun k => hS.mod ((Mod.refl (fun q => q = b) h').set (fun _ => rfl) _) (notb hS)
            simp +contextual only [r0, r2, r3, hg, hend, hz, nb, bn, f0, f1, w2, e34, c1, hS.v.len, hbig, convStr_own (hS2 _), List.getElem?_eq_getElem hlt, Int.toNat_natCast, ↓wA, wB, wZ, repeatV, RX.evs, spl, over, ones, Ex.ends, evR, oneOf, top, ↓reduceIte, Nat.reduceEqDiff, Nat.reduceLeDiff, Nat.reduceAdd, Nat.reduceSub, Nat.reduceMul, reduceCtorEq, Int.reduceEq, Int.reduceLT, Int.reduceLE, Int.reduceNeg, Int.reduceAdd, Int.reduceSub]
            refine ⟨(hm.set (fun _ => rfl) _).set (fun q => absurd (show unPa (pa h.next) < h.next from q) (by rw [unPa_pa]; omega)) _, _, _, _, rfl, ?_⟩
            unfold strM
            rw [hok]
            simp only
            rw [if_neg (by omega)]
            refine ⟨rfl, rfl, rfl, ?_, ?_⟩
            · simp only [scB, nb, bn, ↓wA, wB, wZ, repeatV, RX.evs, spl, over, ones, Ex.ends, evR, oneOf, top, ↓reduceIte, Nat.reduceEqDiff, Nat.reduceLeDiff, Nat.reduceAdd, Nat.reduceSub, Nat.reduceMul, reduceCtorEq, Int.reduceEq, Int.reduceLT, Int.reduceLE, Int.reduceNeg, Int.reduceAdd, Int.reduceSub]
              rw [show a0 + (1 + (a - (a0 + 1)) + 1) = a + 1 from by omega]
            · simp only; omega
        rw [if_neg c1] at hok
        by_cases c2 : s[a] = 92
        · rw [if_pos c2] at hok
          replace c2 : (s[a] = 92) = True := eq_true c2
          simp +contextual only [r0, r2, r3, hg, hend, hz, nb, bn, f0, f1, w2, e34, e92, c1, c2, List.getElem?_eq_getElem hlt, Int.toNat_natCast, ↓wA, wB, wZ, repeatV, RX.evs, spl, over, ones, Ex.ends, evR, oneOf, top, ↓reduceIte, Nat.reduceEqDiff, Nat.reduceLeDiff, Nat.reduceAdd, Nat.reduceSub, Nat.reduceMul, reduceCtorEq, Int.reduceEq, Int.reduceLT, Int.reduceLE, Int.reduceNeg, Int.reduceAdd, Int.reduceSub]
          refine callK_intro (escape_ctr s a b h' hg hlt hs hobn) ?_
          rintro x h2 ⟨hm2, hx⟩
          have hS2 := hS.mod hm2 (notb hS)
          have hz2 : h2.get (pa h.next) = .ofL [.int .i64 0, .int .i64 0, .int .i64 0, .str []] 0 false := by
            rw [hm2.get _ (old_lt (by omega)) (by rw [bn]; exact id), hz]
          have nx2 := hm2.next
          obtain ⟨c, hc, hrest⟩ : ∃ c : UInt8, x = .int .u8 (c.toNat : Int) ∧ ((∃ n, escM (s.drop (a + 1)) = some (c, n) ∧ h2.get b = scB s ((a + 1 + n : Nat) : Int) 0 ∧ a + 1 + n ≤ s.length) ∨ (escM (s.drop (a + 1)) = none ∧ h2.get b = scB s ((a + 1 : Nat) : Int) 252)) := by
            cases hesc : escM (s.drop (a + 1)) with
            | none => rw [hesc] at hx; exact ⟨0, hx.1, .inr ⟨rfl, hx.2⟩⟩
            | some q => rw [hesc] at hx; exact ⟨q.1, hx.1, .inl ⟨q.2, rfl, hx.2⟩⟩
          subst hc
          obtain ⟨v3, h3, q1, q2, q3, q4, q5, q6⟩ := step h2 (hm.trans hm2) nx2 hS2 c
          have q2' : SlO (h.next + 1) h3 1 v3 (bs.length + 1) (bytesV (bs ++ [c])) := by rw [List.length_append] at q2; exact q2
          have hz3 : h3.get (pa h.next) = .ofL [.int .i64 0, .int .i64 0, .int .i64 0, .str []] 0 false := by rw [q6, hz2]
          unfold scB at hrest
          rcases hrest with ⟨n, hesc, hg2, hle⟩ | ⟨hesc, hg2⟩
          · simp +contextual only [q1, r0, r2, hg, hg2, q5, nb, bn, ↓wA, wB, wZ, repeatV, RX.evs, spl, over, ones, Ex.ends, evR, oneOf, top, ↓reduceIte, Nat.reduceEqDiff, Nat.reduceLeDiff, Nat.reduceAdd, Nat.reduceSub, Nat.reduceMul, reduceCtorEq, Int.reduceEq, Int.reduceLT, Int.reduceLE, Int.reduceNeg, Int.reduceAdd, Int.reduceSub]
            rw [hesc] at hok
            simp only at hok
            refine ⟨⟨a + 1 + n, 0, bs ++ [c], rfl, hle, by omega, by simp; omega, hz3, q3, q4, q2, .inl ⟨rfl, ?_⟩⟩, by omega⟩
            rw [hok, List.drop_drop, Option.map_map]
            congr 1
            funext q
            simp only [Function.comp, List.append_assoc, List.singleton_append, Prod.mk.injEq, true_and]
            omega
          · simp +contextual only [q1, r0, r2, hg, hg2, q5, nb, bn, ↓wA, wB, wZ, repeatV, RX.evs, spl, over, ones, Ex.ends, evR, oneOf, top, ↓reduceIte, Nat.reduceEqDiff, Nat.reduceLeDiff, Nat.reduceAdd, Nat.reduceSub, Nat.reduceMul, reduceCtorEq, Int.reduceEq, Int.reduceLT, Int.reduceLE, Int.reduceNeg, Int.reduceAdd, Int.reduceSub]
            rw [hesc] at hok
            exact ⟨⟨a + 1, 252, bs ++ [c], rfl, by omega, by omega, by simp; omega, hz3, q3, q4, q2, .inr ⟨rfl, hok⟩⟩, by omega⟩
        rw [if_neg c2] at hok
        by_cases c3 : s[a] < 32 ∨ s[a] = 127
        · rw [if_pos c3] at hok
          have c3' : (decide (s[a] < 32) || decide (s[a] = 127)) = true := by simpa using c3
          simp +contextual only [r0, r2, r3, hg, hend, hz, nb, bn, f0, f1, w2, e34, e92, e127, l32, c1, c2, c3', List.getElem?_eq_getElem hlt, Int.toNat_natCast, ↓wA, wB, wZ, repeatV, RX.evs, spl, over, ones, Ex.ends, evR, oneOf, top, ↓reduceIte, Nat.reduceEqDiff, Nat.reduceLeDiff, Nat.reduceAdd, Nat.reduceSub, Nat.reduceMul, reduceCtorEq, Int.reduceEq, Int.reduceLT, Int.reduceLE, Int.reduceNeg, Int.reduceAdd, Int.reduceSub]
          exact ⟨⟨a, 252, bs, rfl, k1, k0, kb, hm.self _, hnx, hS.mod ((Mod.refl (fun q => q = b) h').self _) (notb hS), .inr ⟨rfl, hok⟩⟩, by omega⟩
        · rw [if_neg c3] at hok
          have c3' : (decide (s[a] < 32) || decide (s[a] = 127)) = false := by simpa using c3
          obtain ⟨v3, h3, q1, q2, q3, q4, q5, q6⟩ := step (h'.set b (.ofL [.str s, .int .i64 ((a + 1 : Nat) : Int), .int .i64 0] 0 false)) (hm.self _) (by rw [next_set]; exact Nat.le_refl _) (hS.mod ((Mod.refl (fun q => q = b) h').self _) (notb hS)) s[a]
          simp only [next_set, get_set, nb, bn, if_true, if_false] at q1 q5 q6
          simp +contextual only [q1, r0, r2, r3, hg, hend, hz, nb, bn, f0, f1, w2, e34, e92, e127, l32, c1, c2, c3', q5, List.getElem?_eq_getElem hlt, Int.toNat_natCast, ↓wA, wB, wZ, repeatV, RX.evs, spl, over, ones, Ex.ends, evR, oneOf, top, ↓reduceIte, Nat.reduceEqDiff, Nat.reduceLeDiff, Nat.reduceAdd, Nat.reduceSub, Nat.reduceMul, reduceCtorEq, Int.reduceEq, Int.reduceLT, Int.reduceLE, Int.reduceNeg, Int.reduceAdd, Int.reduceSub]
          refine ⟨⟨a + 1, 0, bs ++ [s[a]], rfl, by omega, by omega, by simp; omega, by rw [q6, hz], q3, q4, q2, .inl ⟨rfl, ?_⟩⟩, by omega⟩
          rw [hok, Option.map_map]
          congr 1
          funext q
          simp only [Function.comp, List.append_assoc, List.singleton_append, Prod.mk.injEq, true_and]
          omega
    · simp +contextual only [r0, r2, r3, hg, hz, nb, bn, ↓wA, wB, wZ, repeatV, RX.evs, spl, over, ones, Ex.ends, evR, oneOf, top, ↓reduceIte, Nat.reduceEqDiff, Nat.reduceLeDiff, Nat.reduceAdd, Nat.reduceSub, Nat.reduceMul, reduceCtorEq, Int.reduceEq, Int.reduceLT, Int.reduceLE, Int.reduceNeg, Int.reduceAdd, Int.reduceSub]
      exact fin _ _ hok hm hg
end Go.Proofs.YthcgccnbhdociaaDoor

namespace Go.Proofs.YthcgccnbhdociaaDoor
open Go Am
set_option linter.unusedSectionVars false
set_option linter.unusedSimpArgs false
set_option linter.unusedVariables false

def keysText : List UInt8 := [32, 97, 110, 100, 32, 98, 101, 103, 105, 110, 32, 101, 108, 115, 101, 32, 101, 110, 100, 32, 101, 120, 99, 101, 112, 116, 105, 111, 110, 32, 102, 97, 108, 115, 101, 32, 102, 117, 110, 32, 105, 102, 32, 105, 110, 32, 108, 101, 116, 32, 109, 97, 116, 99, 104, 32, 109, 111, 100, 32, 111, 102, 32, 114, 97, 105, 115, 101, 32, 114, 101, 99, 32, 116, 104, 101, 110, 32, 116, 114, 117, 101, 32, 116, 114, 121, 32, 116, 121, 112, 101, 32, 119, 105, 116, 104, 32]
def flatK : List (List UInt8) → List UInt8
  | [] => [32]
  | w :: L => 32 :: (w ++ flatK L)
theorem flatK_keys : flatK keyList = keysText := by decide
theorem flatK_cons (L : List (List UInt8)) : ∃ r, flatK L = 32 :: r := by cases L <;> exact ⟨_, rfl⟩
theorem index_ge (sub : List UInt8) : ∀ l : List UInt8, -1 ≤ Lib.index l sub
  | [] => by simp only [Lib.index]; split <;> decide
  | b :: l => by
    have := index_ge sub l
    simp only [Lib.index]
    split
    · decide
    · split <;> omega
theorem index_cons (sub : List UInt8) (b : UInt8) (l : List UInt8) : (0 ≤ Lib.index (b :: l) sub) ↔ (sub.isPrefixOf (b :: l) = true ∨ 0 ≤ Lib.index l sub) := by
  have := index_ge sub l
  simp only [Lib.index]
  split
  · rename_i h; simp [h]
  · rename_i h
    split
    · rename_i h2
      have : Lib.index l sub = -1 := by simpa using h2
      simp [h, this]
    · rename_i h2
      have h3 : ¬ Lib.index l sub = -1 := by simpa using h2
      simp only [h, Bool.false_eq_true, false_or]
      omega
theorem index_skip (x : List UInt8) (r : List UInt8) : ∀ w : List UInt8, (32 : UInt8) ∉ w → ((0 ≤ Lib.index (w ++ r) (32 :: x)) ↔ 0 ≤ Lib.index r (32 :: x))
  | [], _ => Iff.rfl
  | b :: w, h => by
    rw [List.cons_append, index_cons, index_skip x r w (fun q => h (List.mem_cons_of_mem _ q))]
    have hb : ((32 : UInt8) == b) = false := by rw [beq_eq_false_iff_ne]; rintro rfl; exact h (List.mem_cons_self ..)
    simp [List.isPrefixOf, hb]
theorem pre_word (r : List UInt8) : ∀ (t w : List UInt8), (32 : UInt8) ∉ t → (32 : UInt8) ∉ w → ((t ++ [32]).isPrefixOf (w ++ 32 :: r) = true ↔ t = w)
  | [], [], _, _ => by simp [List.isPrefixOf]
  | [], b :: w, _, h => by
    have hb : ((32 : UInt8) == b) = false := by rw [beq_eq_false_iff_ne]; rintro rfl; exact h (List.mem_cons_self ..)
    simp [List.isPrefixOf, hb]
  | a :: t, [], h, _ => by
    have hb : (a == (32 : UInt8)) = false := by rw [beq_eq_false_iff_ne]; rintro rfl; exact h (List.mem_cons_self ..)
    simp [List.isPrefixOf, hb]
  | a :: t, b :: w, h, h' => by
    have ih := pre_word r t w (fun q => h (List.mem_cons_of_mem _ q)) (fun q => h' (List.mem_cons_of_mem _ q))
    simp only [List.cons_append, List.isPrefixOf, Bool.and_eq_true, beq_iff_eq, ih, List.cons.injEq]
theorem index_flat (t : List UInt8) (ht : (32 : UInt8) ∉ t) : ∀ L : List (List UInt8), (∀ w ∈ L, (32 : UInt8) ∉ w) → ((0 ≤ Lib.index (flatK L) (32 :: (t ++ [32]))) ↔ t ∈ L)
  | [], _ => by
    cases t <;> simp [flatK, Lib.index, List.isPrefixOf]
  | w :: L, h => by
    have ih := index_flat t ht L (fun x hx => h x (List.mem_cons_of_mem _ hx))
    have hw := h w (List.mem_cons_self ..)
    obtain ⟨r, hr⟩ := flatK_cons L
    simp only [flatK]
    rw [index_cons, index_skip _ _ _ hw, ih, List.mem_cons]
    have : (32 :: (t ++ [32])).isPrefixOf (32 :: (w ++ flatK L)) = (t ++ [32]).isPrefixOf (w ++ flatK L) := by simp [List.isPrefixOf]
    rw [this, hr, pre_word r t w ht hw]
theorem contains_key (t : List UInt8) (ht : (32 : UInt8) ∉ t) : Lib.contains keysText (32 :: (t ++ [32])) = keyB t := by
  have := index_flat t ht keyList (by decide)
  rw [flatK_keys] at this
  unfold Lib.contains keyB
  rw [Bool.eq_iff_iff, decide_eq_true_eq, this]
  simp
theorem ltr_no32 {l : List UInt8} : (32 : UInt8) ∉ l.takeWhile ltr := fun h => by
  have := take_all _ h
  revert this
  decide

theorem name_ctr (s : List UInt8) (a0 : Nat) (k : Int) (b : Pa) (h : Heap) (hb : h.get b = scB s a0 0) (h0 : a0 ≤ s.length) (hs : s.length ≤ 100000) (hob : Old h b) :
    Ctr Tryd.prog 48 [.ptr b 0, .int .i64 k] h (WOut s a0 b h (nameM k (s.drop a0))) := by
  refine c48_ctr rfl (wpK_of ?_)
  unfold c48
  have nb : (b = pa h.next) = False := new_ne hob (Nat.le_refl _)
  have bn : (pa h.next = b) = False := by rw [← nb]; exact propext eq_comm
  simp +contextual only [hb, nb, bn, ↓wA, wB, wZ, repeatV, RX.evs, spl, over, ones, Ex.ends, evR, oneOf, top, ↓reduceIte, Nat.reduceEqDiff, Nat.reduceLeDiff, Nat.reduceAdd, Nat.reduceSub, Nat.reduceMul, reduceCtorEq, Int.reduceEq, Int.reduceLT, Int.reduceLE, Int.reduceNeg, Int.reduceAdd, Int.reduceSub]
  have hx : Ext h (h.new (.ofL [.int .i64 0, .int .i64 0, .int .i64 0, .str []] 0 false)) := (Ext.refl h).new _
  refine callK_intro (run_ctr s a0 0 b 77 letterB _ (by rw [hx.get _ hob, hb]) h0 hs (fun c h => letter_pure c h)) ?_
  rintro x h1 ⟨rfl, hm, hg⟩
  have et : (fun c : UInt8 => letterB (c.toNat : Int)) = ltr := rfl
  rw [et] at hg ⊢
  have hmm : Mod (fun q => q = b) h h1 := (hx.mod _).trans hm
  have g1 : h1.get (pa h.next) = .ofL [.int .i64 0, .int .i64 0, .int .i64 0, .str []] 0 false := by
    rw [hm.get _ (old_lt (by rw [next_new]; omega)) (by rw [bn]; exact id)]
    simp only [↓wA, wB, wZ, repeatV, RX.evs, spl, over, ones, Ex.ends, evR, oneOf, top, ↓reduceIte, Nat.reduceEqDiff, Nat.reduceLeDiff, Nat.reduceAdd, Nat.reduceSub, Nat.reduceMul, reduceCtorEq, Int.reduceEq, Int.reduceLT, Int.reduceLE, Int.reduceNeg, Int.reduceAdd, Int.reduceSub]
  have hlen := take_le ltr s a0
  have h32 : (32 : UInt8) ∉ (s.drop a0).takeWhile ltr := ltr_no32
  unfold scB at hg
  have hn1 : nameM k (s.drop a0) = if k = 3 ∧ (s.drop a0).takeWhile ltr = [95] then .ok (7, 0, (s.drop a0).takeWhile ltr, ((s.drop a0).takeWhile ltr).length) else if k = 3 ∧ keyB ((s.drop a0).takeWhile ltr) then .ok (6, 0, (s.drop a0).takeWhile ltr, ((s.drop a0).takeWhile ltr).length) else if 64 < ((s.drop a0).takeWhile ltr).length then .error 255 else .ok (k, 0, (s.drop a0).takeWhile ltr, ((s.drop a0).takeWhile ltr).length) := rfl
  rw [hn1]
  generalize (s.drop a0).takeWhile ltr = t at *
  have ok1 : ∀ (kk : Int), WOut s a0 b h (.ok (kk, 0, t, t.length)) (.agg [.int .i64 kk, .int .i64 0, .int .i64 0, .str t]) (h1.set (pa h.next) (.ofL [.int .i64 kk, .int .i64 0, .int .i64 0, .str t] 0 false)) := by
    intro kk
    refine ⟨hmm.fresh (Nat.le_refl _) _, _, _, _, rfl, rfl, rfl, rfl, ?_, by show a0 + t.length ≤ s.length; omega⟩
    rw [get_set, if_neg (by rw [bn]; exact id), hg]
    rfl
  have tail : (64 < t.length → WOut s a0 b h (.error 255) (.agg [.int .i64 k, .int .i64 0, .int .i64 0, .str t]) ((h1.set b (.ofL [.str s, .int .i64 ((a0 + t.length : Nat) : Int), .int .i64 255] 0 false)).set (pa h.next) (.ofL [.int .i64 k, .int .i64 0, .int .i64 0, .str t] 0 false))) := by
    intro hl
    refine ⟨(hmm.self _).fresh (Nat.le_refl _) _, _, _, _, rfl, by decide, ((a0 + t.length : Nat) : Int), ?_⟩
    simp only [scB, nb, bn, ↓wA, wB, wZ, repeatV, RX.evs, spl, over, ones, Ex.ends, evR, oneOf, top, ↓reduceIte, Nat.reduceEqDiff, Nat.reduceLeDiff, Nat.reduceAdd, Nat.reduceSub, Nat.reduceMul, reduceCtorEq, Int.reduceEq, Int.reduceLT, Int.reduceLE, Int.reduceNeg, Int.reduceAdd, Int.reduceSub]
  by_cases hk : k = 3
  · subst hk
    by_cases hu : t = [95]
    · simp +contextual only [g1, hg, nb, bn, hu, true_and, ↓wA, wB, wZ, repeatV, RX.evs, spl, over, ones, Ex.ends, evR, oneOf, top, ↓reduceIte, Nat.reduceEqDiff, Nat.reduceLeDiff, Nat.reduceAdd, Nat.reduceSub, Nat.reduceMul, reduceCtorEq, Int.reduceEq, Int.reduceLT, Int.reduceLE, Int.reduceNeg, Int.reduceAdd, Int.reduceSub]
      subst hu
      exact ok1 7
    · have t1 : (1 + t.length ≤ top) = True := eq_true (by unfold top; omega)
      have t2 : (t.length + 1 + 1 ≤ top) = True := eq_true (by unfold top; omega)
      simp only [top] at t1 t2
      simp +contextual only [g1, hg, nb, bn, hu, true_and, List.length_append, t1, t2, ↓wA, wB, wZ, repeatV, RX.evs, spl, over, ones, Ex.ends, evR, oneOf, top, ↓reduceIte, Nat.reduceEqDiff, Nat.reduceLeDiff, Nat.reduceAdd, Nat.reduceSub, Nat.reduceMul, reduceCtorEq, Int.reduceEq, Int.reduceLT, Int.reduceLE, Int.reduceNeg, Int.reduceAdd, Int.reduceSub]
      refine callK_pure (contains_calls keysText (32 :: (t ++ [32])) (by decide) _) ?_
      rw [contains_key t h32]
      cases hkey : keyB t with
      | true =>
        simp +contextual only [g1, hg, nb, bn, hu, true_and, and_false, hkey, List.length_append, t1, t2, ↓wA, wB, wZ, repeatV, RX.evs, spl, over, ones, Ex.ends, evR, oneOf, top, ↓reduceIte, Nat.reduceEqDiff, Nat.reduceLeDiff, Nat.reduceAdd, Nat.reduceSub, Nat.reduceMul, reduceCtorEq, Int.reduceEq, Int.reduceLT, Int.reduceLE, Int.reduceNeg, Int.reduceAdd, Int.reduceSub]
        exact ok1 6
      | false =>
        by_cases hl : 64 < t.length
        · have hl' : (64 : Int) < (t.length : Int) := by omega
          simp +contextual only [g1, hg, nb, bn, hu, hl, hl', true_and, and_false, hkey, List.length_append, t1, t2, Bool.false_eq_true, ↓wA, wB, wZ, repeatV, RX.evs, spl, over, ones, Ex.ends, evR, oneOf, top, ↓reduceIte, Nat.reduceEqDiff, Nat.reduceLeDiff, Nat.reduceAdd, Nat.reduceSub, Nat.reduceMul, reduceCtorEq, Int.reduceEq, Int.reduceLT, Int.reduceLE, Int.reduceNeg, Int.reduceAdd, Int.reduceSub]
          exact tail hl
        · have hl' : ¬ (64 : Int) < (t.length : Int) := by omega
          simp +contextual only [g1, hg, nb, bn, hu, hl, hl', true_and, and_false, hkey, List.length_append, t1, t2, Bool.false_eq_true, ↓wA, wB, wZ, repeatV, RX.evs, spl, over, ones, Ex.ends, evR, oneOf, top, ↓reduceIte, Nat.reduceEqDiff, Nat.reduceLeDiff, Nat.reduceAdd, Nat.reduceSub, Nat.reduceMul, reduceCtorEq, Int.reduceEq, Int.reduceLT, Int.reduceLE, Int.reduceNeg, Int.reduceAdd, Int.reduceSub]
          exact ok1 3
  · by_cases hl : 64 < t.length
    · have hl' : (64 : Int) < (t.length : Int) := by omega
      simp +contextual only [g1, hg, nb, bn, hk, hl, hl', false_and, ↓wA, wB, wZ, repeatV, RX.evs, spl, over, ones, Ex.ends, evR, oneOf, top, ↓reduceIte, Nat.reduceEqDiff, Nat.reduceLeDiff, Nat.reduceAdd, Nat.reduceSub, Nat.reduceMul, reduceCtorEq, Int.reduceEq, Int.reduceLT, Int.reduceLE, Int.reduceNeg, Int.reduceAdd, Int.reduceSub]
      exact tail hl
    · have hl' : ¬ (64 : Int) < (t.length : Int) := by omega
      simp +contextual only [g1, hg, nb, bn, hk, hl, hl', false_and, ↓wA, wB, wZ, repeatV, RX.evs, spl, over, ones, Ex.ends, evR, oneOf, top, ↓reduceIte, Nat.reduceEqDiff, Nat.reduceLeDiff, Nat.reduceAdd, Nat.reduceSub, Nat.reduceMul, reduceCtorEq, Int.reduceEq, Int.reduceLT, Int.reduceLE, Int.reduceNeg, Int.reduceAdd, Int.reduceSub]
      exact ok1 k
end Go.Proofs.YthcgccnbhdociaaDoor

namespace Go.Proofs.YthcgccnbhdociaaDoor
open Go Am
set_option linter.unusedSectionVars false
set_option linter.unusedSimpArgs false
set_option linter.unusedVariables false

def signVs : List V := signList.map V.str
theorem signs_ctr (h : Heap) : Ctr Tryd.prog 50 [] h fun x h' => x = .slice (pa h.next) 0 17 17 ∧ h' = h.new (.ofL signVs 0 false) := by
  refine c50_ctr rfl (wpK_of ?_)
  unfold c50
  simp +contextual only [↓wA, wB, wZ, repeatV, RX.evs, spl, over, ones, Ex.ends, evR, oneOf, top, ↓reduceIte, Nat.reduceEqDiff, Nat.reduceLeDiff, Nat.reduceAdd, Nat.reduceSub, Nat.reduceMul, reduceCtorEq, Int.reduceEq, Int.reduceLT, Int.reduceLE, Int.reduceNeg, Int.reduceAdd, Int.reduceSub]
  rfl
theorem signVs_get {i : Nat} (hi : i < 17) : signVs[i]? = some (.str (signList[i]'hi)) := by
  unfold signVs
  rw [List.getElem?_map, List.getElem?_eq_getElem (show i < signList.length from hi)]
  rfl
theorem find_step (p : List UInt8 → Bool) {i : Nat} (hi : i < 17) : (signList.drop i).find? p = if p (signList[i]'hi) then some (signList[i]'hi) else (signList.drop (i + 1)).find? p := by
  rw [List.drop_eq_getElem_cons (show i < signList.length from hi), List.find?_cons]
  cases p signList[i] <;> rfl

theorem WOut.store {s : List UInt8} {p : Nat} {b : Pa} {h : Heap} {z k2 : Blk} {res : Res} {x : V} {h1 : Heap} (w : WOut s p b (h.new z) res x h1) (hob : Old h b) : WOut s p b h res x (h1.set (pa h.next) k2) := by
  have bn : ¬ (pa h.next = b) := by
    intro q
    have : unPa b < h.next := hob
    rw [← q, unPa_pa] at this
    omega
  obtain ⟨hm, k, n, t, hx, hr⟩ := w
  refine ⟨((((Ext.refl h).new z).mod _).trans hm).fresh (Nat.le_refl _) _, k, n, t, hx, ?_⟩
  cases res with
  | ok q => simpa only [get_set, if_neg bn] using hr
  | error e => simpa only [get_set, if_neg bn] using hr

theorem next_ctr (s : List UInt8) (a0 : Nat) (b : Pa) (h : Heap) (hb : h.get b = scB s a0 0) (h0 : a0 < s.length) (hs : s.length ≤ 100000) (hob : Old h b) :
    Ctr Tryd.prog 26 [.ptr b 0] h (WOut s a0 b h (nextM (s.drop a0))) := by
  refine c26_ctr rfl (wpK_of ?_)
  unfold c26
  have nb : (b = pa h.next) = False := new_ne hob (Nat.le_refl _)
  have bn : (pa h.next = b) = False := by rw [← nb]; exact propext eq_comm
  have hb0 := hb
  unfold scB at hb
  have f0 : (0 ≤ (a0 : Int)) = True := eq_true (by omega)
  have f1 : ((a0 : Int) < (s.length : Int)) = True := eq_true (by omega)
  have hx : Ext h (h.new (.ofL [.int .i64 0, .int .i64 0, .int .i64 0, .str []] 0 false)) := (Ext.refl h).new _
  have hobx : Old (h.new (.ofL [.int .i64 0, .int .i64 0, .int .i64 0, .str []] 0 false)) b := hx.old hob
  have hbx : (h.new (.ofL [.int .i64 0, .int .i64 0, .int .i64 0, .str []] 0 false)).get b = scB s a0 0 := by rw [hx.get _ hob, hb0]
  have gnew : ∀ {res : Res} {x : V} {h1 : Heap}, WOut s a0 b (h.new (.ofL [.int .i64 0, .int .i64 0, .int .i64 0, .str []] 0 false)) res x h1 → h1.get (pa h.next) = .ofL [.int .i64 0, .int .i64 0, .int .i64 0, .str []] 0 false := by
    intro res x h1 w
    rw [w.mod.get _ (old_lt (by rw [next_new]; omega)) (by rw [bn]; exact id)]
    simp only [↓wA, wB, wZ, repeatV, RX.evs, spl, over, ones, Ex.ends, evR, oneOf, top, ↓reduceIte, Nat.reduceEqDiff, Nat.reduceLeDiff, Nat.reduceAdd, Nat.reduceSub, Nat.reduceMul, reduceCtorEq, Int.reduceEq, Int.reduceLT, Int.reduceLE, Int.reduceNeg, Int.reduceAdd, Int.reduceSub]
  have hd := drop_cons h0
  rw [hd]
  have dg : digitB ((s[a0]).toNat : Int) = dig s[a0] := rfl
  have e34 : (((s[a0]).toNat : Int) = 34) = (s[a0] = 34) := u8_eq _ 34 (by omega)
  have e95 : (((s[a0]).toNat : Int) = 95) = (s[a0] = 95) := u8_eq _ 95 (by omega)
  have e39 : (((s[a0]).toNat : Int) = 39) = (s[a0] = 39) := u8_eq _ 39 (by omega)
  simp +contextual only [hb, nb, bn, f0, f1, List.getElem?_eq_getElem h0, Int.toNat_natCast, ↓wA, wB, wZ, repeatV, RX.evs, spl, over, ones, Ex.ends, evR, oneOf, top, ↓reduceIte, Nat.reduceEqDiff, Nat.reduceLeDiff, Nat.reduceAdd, Nat.reduceSub, Nat.reduceMul, reduceCtorEq, Int.reduceEq, Int.reduceLT, Int.reduceLE, Int.reduceNeg, Int.reduceAdd, Int.reduceSub]
  refine callK_pure (digit_pure _ _) ?_
  rw [dg]
  cases h1 : dig s[a0] with
  | true =>
    have en : nextM (s[a0] :: s.drop (a0 + 1)) = numM (s.drop a0) := by rw [hd]; simp only [nextM, h1, if_true]
    rw [en]
    simp +contextual only [hb, nb, bn, f0, f1, List.getElem?_eq_getElem h0, Int.toNat_natCast, ↓wA, wB, wZ, repeatV, RX.evs, spl, over, ones, Ex.ends, evR, oneOf, top, ↓reduceIte, Nat.reduceEqDiff, Nat.reduceLeDiff, Nat.reduceAdd, Nat.reduceSub, Nat.reduceMul, reduceCtorEq, Int.reduceEq, Int.reduceLT, Int.reduceLE, Int.reduceNeg, Int.reduceAdd, Int.reduceSub]
    refine callK_intro (number_ctr s a0 b _ hbx h0 hs hobx h1) ?_
    rintro x hp w
    have g1 := gnew w
    obtain ⟨k, n, t, rfl, _⟩ := w.res
    simp +contextual only [g1, hb, nb, bn, f0, f1, ↓wA, wB, wZ, repeatV, RX.evs, spl, over, ones, Ex.ends, evR, oneOf, top, ↓reduceIte, Nat.reduceEqDiff, Nat.reduceLeDiff, Nat.reduceAdd, Nat.reduceSub, Nat.reduceMul, reduceCtorEq, Int.reduceEq, Int.reduceLT, Int.reduceLE, Int.reduceNeg, Int.reduceAdd, Int.reduceSub]
    exact w.store hob
  | false =>
    by_cases h2 : s[a0] = 34
    · have en : nextM (s[a0] :: s.drop (a0 + 1)) = strM (s.drop (a0 + 1)) := by simp only [nextM]; rw [if_neg (by rw [h1]; exact Bool.false_ne_true), if_pos h2]
      rw [en]
      replace h2 := eq_true h2
      simp +contextual only [hb, nb, bn, f0, f1, e34, h2, List.getElem?_eq_getElem h0, Int.toNat_natCast, ↓wA, wB, wZ, repeatV, RX.evs, spl, over, ones, Ex.ends, evR, oneOf, top, ↓reduceIte, Nat.reduceEqDiff, Nat.reduceLeDiff, Nat.reduceAdd, Nat.reduceSub, Nat.reduceMul, reduceCtorEq, Int.reduceEq, Int.reduceLT, Int.reduceLE, Int.reduceNeg, Int.reduceAdd, Int.reduceSub]
      refine callK_intro (text_ctr s a0 b _ hbx h0 hs hobx) ?_
      rintro x hp w
      have g1 := gnew w
      obtain ⟨k, n, t, rfl, _⟩ := w.res
      simp +contextual only [g1, hb, nb, bn, f0, f1, ↓wA, wB, wZ, repeatV, RX.evs, spl, over, ones, Ex.ends, evR, oneOf, top, ↓reduceIte, Nat.reduceEqDiff, Nat.reduceLeDiff, Nat.reduceAdd, Nat.reduceSub, Nat.reduceMul, reduceCtorEq, Int.reduceEq, Int.reduceLT, Int.reduceLE, Int.reduceNeg, Int.reduceAdd, Int.reduceSub]
      exact w.store hob
    simp +contextual only [hb, nb, bn, f0, f1, e34, h2, List.getElem?_eq_getElem h0, Int.toNat_natCast, ↓wA, wB, wZ, repeatV, RX.evs, spl, over, ones, Ex.ends, evR, oneOf, top, ↓reduceIte, Nat.reduceEqDiff, Nat.reduceLeDiff, Nat.reduceAdd, Nat.reduceSub, Nat.reduceMul, reduceCtorEq, Int.reduceEq, Int.reduceLT, Int.reduceLE, Int.reduceNeg, Int.reduceAdd, Int.reduceSub]
    refine callK_pure (small_pure _ _) ?_
    by_cases h3 : (smallB ((s[a0]).toNat : Int) || decide (s[a0] = 95)) = true
    · have en : nextM (s[a0] :: s.drop (a0 + 1)) = nameM 3 (s.drop a0) := by rw [hd]; simp only [nextM, h1, h2, h3, Bool.false_eq_true, if_false, if_true]
      rw [en]
      have fin : callK Tryd.prog 48 [.ptr b 0, .int .i64 3] (some 33) none [] [] (fun _ => .bad) h (fun _ _ _ => True) → True := fun _ => trivial
      cases hs1 : smallB ((s[a0]).toNat : Int) with
      | true =>
        simp +contextual only [hb, nb, bn, f0, f1, e34, h2, hs1, List.getElem?_eq_getElem h0, Int.toNat_natCast, ↓wA, wB, wZ, repeatV, RX.evs, spl, over, ones, Ex.ends, evR, oneOf, top, ↓reduceIte, Nat.reduceEqDiff, Nat.reduceLeDiff, Nat.reduceAdd, Nat.reduceSub, Nat.reduceMul, reduceCtorEq, Int.reduceEq, Int.reduceLT, Int.reduceLE, Int.reduceNeg, Int.reduceAdd, Int.reduceSub]
        refine callK_intro (name_ctr s a0 3 b _ hbx (by omega) hs hobx) ?_
        rintro x hp w
        have g1 := gnew w
        obtain ⟨k, n, t, rfl, _⟩ := w.res
        simp +contextual only [g1, hb, nb, bn, f0, f1, ↓wA, wB, wZ, repeatV, RX.evs, spl, over, ones, Ex.ends, evR, oneOf, top, ↓reduceIte, Nat.reduceEqDiff, Nat.reduceLeDiff, Nat.reduceAdd, Nat.reduceSub, Nat.reduceMul, reduceCtorEq, Int.reduceEq, Int.reduceLT, Int.reduceLE, Int.reduceNeg, Int.reduceAdd, Int.reduceSub]
        exact w.store hob
      | false =>
        rw [hs1, Bool.false_or, decide_eq_true_eq] at h3
        replace h3 := eq_true h3
        simp +contextual only [hb, nb, bn, f0, f1, e34, e95, h2, h3, hs1, List.getElem?_eq_getElem h0, Int.toNat_natCast, ↓wA, wB, wZ, repeatV, RX.evs, spl, over, ones, Ex.ends, evR, oneOf, top, ↓reduceIte, Nat.reduceEqDiff, Nat.reduceLeDiff, Nat.reduceAdd, Nat.reduceSub, Nat.reduceMul, reduceCtorEq, Int.reduceEq, Int.reduceLT, Int.reduceLE, Int.reduceNeg, Int.reduceAdd, Int.reduceSub]
        refine callK_intro (name_ctr s a0 3 b _ hbx (by omega) hs hobx) ?_
        rintro x hp w
        have g1 := gnew w
        obtain ⟨k, n, t, rfl, _⟩ := w.res
        simp +contextual only [g1, hb, nb, bn, f0, f1, ↓wA, wB, wZ, repeatV, RX.evs, spl, over, ones, Ex.ends, evR, oneOf, top, ↓reduceIte, Nat.reduceEqDiff, Nat.reduceLeDiff, Nat.reduceAdd, Nat.reduceSub, Nat.reduceMul, reduceCtorEq, Int.reduceEq, Int.reduceLT, Int.reduceLE, Int.reduceNeg, Int.reduceAdd, Int.reduceSub]
        exact w.store hob
    · have h3' := h3
      rw [Bool.not_eq_true, Bool.or_eq_false_iff, decide_eq_false_iff_not] at h3'
      obtain ⟨h3a, h3b⟩ := h3'
      simp +contextual only [hb, nb, bn, f0, f1, e34, e95, h2, h3a, h3b, List.getElem?_eq_getElem h0, Int.toNat_natCast, ↓wA, wB, wZ, repeatV, RX.evs, spl, over, ones, Ex.ends, evR, oneOf, top, ↓reduceIte, Nat.reduceEqDiff, Nat.reduceLeDiff, Nat.reduceAdd, Nat.reduceSub, Nat.reduceMul, reduceCtorEq, Int.reduceEq, Int.reduceLT, Int.reduceLE, Int.reduceNeg, Int.reduceAdd, Int.reduceSub]
      refine callK_pure (great_pure _ _) ?_
      cases h4 : greatB ((s[a0]).toNat : Int) with
      | true =>
        have en : nextM (s[a0] :: s.drop (a0 + 1)) = nameM 4 (s.drop a0) := by rw [hd]; simp only [nextM, h1, h2, h3, h4, Bool.false_eq_true, if_false, if_true]
        rw [en]
        simp +contextual only [hb, nb, bn, f0, f1, List.getElem?_eq_getElem h0, Int.toNat_natCast, ↓wA, wB, wZ, repeatV, RX.evs, spl, over, ones, Ex.ends, evR, oneOf, top, ↓reduceIte, Nat.reduceEqDiff, Nat.reduceLeDiff, Nat.reduceAdd, Nat.reduceSub, Nat.reduceMul, reduceCtorEq, Int.reduceEq, Int.reduceLT, Int.reduceLE, Int.reduceNeg, Int.reduceAdd, Int.reduceSub]
        refine callK_intro (name_ctr s a0 4 b _ hbx (by omega) hs hobx) ?_
        rintro x hp w
        have g1 := gnew w
        obtain ⟨k, n, t, rfl, _⟩ := w.res
        simp +contextual only [g1, hb, nb, bn, f0, f1, ↓wA, wB, wZ, repeatV, RX.evs, spl, over, ones, Ex.ends, evR, oneOf, top, ↓reduceIte, Nat.reduceEqDiff, Nat.reduceLeDiff, Nat.reduceAdd, Nat.reduceSub, Nat.reduceMul, reduceCtorEq, Int.reduceEq, Int.reduceLT, Int.reduceLE, Int.reduceNeg, Int.reduceAdd, Int.reduceSub]
        exact w.store hob
      | false =>
        have w1 : IntKind.i64.wrap ((a0 : Int) + 1) = ((a0 + 1 : Nat) : Int) := by rw [wrap_i64 (by omega) (by omega)]; rfl
        have f2 : (0 ≤ ((a0 + 1 : Nat) : Int)) = True := eq_true (by omega)
        by_cases h5 : s[a0] = 39 ∧ headSmall (s.drop (a0 + 1))
        · have en : nextM (s[a0] :: s.drop (a0 + 1)) = (nameM 5 (s.drop (a0 + 1))).map fun q => (q.1, q.2.1, q.2.2.1, q.2.2.2 + 1) := by simp only [nextM]; rw [if_neg (by rw [h1]; exact Bool.false_ne_true), if_neg h2, if_neg h3, if_neg (by rw [h4]; exact Bool.false_ne_true), if_pos h5]
          rw [en]
          obtain ⟨h5a, h5b⟩ := h5
          replace h5a := eq_true h5a
          have hlt : a0 + 1 < s.length := by
            by_cases q : a0 + 1 < s.length
            · exact q
            · rw [List.drop_eq_nil_of_le (by omega)] at h5b
              cases h5b
          rw [drop_cons hlt] at h5b
          have f3 : (((a0 + 1 : Nat) : Int) < (s.length : Int)) = True := eq_true (by omega)
          simp +contextual (maxSteps := 1000000) only [hb, nb, bn, f0, f1, f2, f3, w1, e34, e95, e39, h2, h5a, List.getElem?_eq_getElem h0, List.getElem?_eq_getElem hlt, Int.toNat_natCast, ↓wA, wB, wZ, repeatV, RX.evs, spl, over, ones, Ex.ends, evR, oneOf, top, ↓reduceIte, Nat.reduceEqDiff, Nat.reduceLeDiff, Nat.reduceAdd, Nat.reduceSub, Nat.reduceMul, reduceCtorEq, Int.reduceEq, Int.reduceLT, Int.reduceLE, Int.reduceNeg, Int.reduceAdd, Int.reduceSub]
          refine callK_pure (small_pure _ _) ?_
          rw [show smallB ((s[a0 + 1]).toNat : Int) = true from h5b]
          simp +contextual (maxSteps := 1000000) only [hb, nb, bn, f0, f1, f2, f3, w1, e34, e95, e39, h2, h5a, List.getElem?_eq_getElem h0, List.getElem?_eq_getElem hlt, Int.toNat_natCast, ↓wA, wB, wZ, repeatV, RX.evs, spl, over, ones, Ex.ends, evR, oneOf, top, ↓reduceIte, Nat.reduceEqDiff, Nat.reduceLeDiff, Nat.reduceAdd, Nat.reduceSub, Nat.reduceMul, reduceCtorEq, Int.reduceEq, Int.reduceLT, Int.reduceLE, Int.reduceNeg, Int.reduceAdd, Int.reduceSub]
          have hmy : Mod (fun q => q = b) (h.new (.ofL [.int .i64 0, .int .i64 0, .int .i64 0, .str []] 0 false)) ((h.new (.ofL [.int .i64 0, .int .i64 0, .int .i64 0, .str []] 0 false)).set b (.ofL [.str s, .int .i64 ((a0 + 1 : Nat) : Int), .int .i64 0] 0 false)) := (Mod.refl _ _).self _
          refine callK_intro (name_ctr s (a0 + 1) 5 b _ (by rw [get_set, if_pos rfl]; rfl) (by omega) hs (hmy.old hobx)) ?_
          rintro x hp w
          have w' : WOut s a0 b (h.new (.ofL [.int .i64 0, .int .i64 0, .int .i64 0, .str []] 0 false)) ((nameM 5 (s.drop (a0 + 1))).map fun q => (q.1, q.2.1, q.2.2.1, q.2.2.2 + 1)) x hp := by
            obtain ⟨wm, k, n, t, wx, wr⟩ := w
            refine ⟨hmy.trans wm, k, n, t, wx, ?_⟩
            cases hn : nameM 5 (s.drop (a0 + 1)) with
            | error e => rw [hn] at wr; exact wr
            | ok q =>
              rw [hn] at wr
              obtain ⟨r1, r2, r3, r4, r5⟩ := wr
              refine ⟨r1, r2, r3, ?_, ?_⟩
              · rw [r4]
                show scB s ((a0 + 1 + q.2.2.2 : Nat) : Int) 0 = scB s ((a0 + (q.2.2.2 + 1) : Nat) : Int) 0
                rw [show a0 + 1 + q.2.2.2 = a0 + (q.2.2.2 + 1) from by omega]
              · show a0 + (q.2.2.2 + 1) ≤ s.length
                omega
          have g1 := gnew w'
          obtain ⟨k, n, t, rfl, _⟩ := w'.res
          simp +contextual only [g1, hb, nb, bn, f0, f1, ↓wA, wB, wZ, repeatV, RX.evs, spl, over, ones, Ex.ends, evR, oneOf, top, ↓reduceIte, Nat.reduceEqDiff, Nat.reduceLeDiff, Nat.reduceAdd, Nat.reduceSub, Nat.reduceMul, reduceCtorEq, Int.reduceEq, Int.reduceLT, Int.reduceLE, Int.reduceNeg, Int.reduceAdd, Int.reduceSub]
          exact w'.store hob
        · have en : nextM (s[a0] :: s.drop (a0 + 1)) = signM (s.drop a0) := by rw [hd]; simp only [nextM]; rw [if_neg (by rw [h1]; exact Bool.false_ne_true), if_neg h2, if_neg h3, if_neg (by rw [h4]; exact Bool.false_ne_true), if_neg h5]
          rw [en]
          have hcase : ((s[a0] = 39) = False) ∨ (((s[a0] = 39) = True) ∧ ¬ a0 + 1 < s.length) ∨ (((s[a0] = 39) = True) ∧ ∃ hlt : a0 + 1 < s.length, smallB ((s[a0 + 1]).toNat : Int) = false) := by
            by_cases q : s[a0] = 39
            · by_cases hlt : a0 + 1 < s.length
              · refine .inr (.inr ⟨eq_true q, hlt, ?_⟩)
                cases hq : smallB ((s[a0 + 1]).toNat : Int) with
                | false => rfl
                | true => exact absurd ⟨q, by rw [drop_cons hlt]; exact hq⟩ h5
              · exact .inr (.inl ⟨eq_true q, hlt⟩)
            · exact .inl (eq_false q)
          have two : ∀ t ∈ signList, t.length ≤ 2 := by decide
          have c17 : ((17 : Nat) : Int) = 17 := rfl
          rcases hcase with q1 | ⟨q1, q2⟩ | ⟨q1, hlt, q2⟩
          case' neg.inl =>
            simp +contextual (maxSteps := 1000000) only [hb, nb, bn, f0, f1, f2, w1, e34, e95, e39, h2, q1, List.getElem?_eq_getElem h0, Int.toNat_natCast, ↓wA, wB, wZ, repeatV, RX.evs, spl, over, ones, Ex.ends, evR, oneOf, top, ↓reduceIte, Nat.reduceEqDiff, Nat.reduceLeDiff, Nat.reduceAdd, Nat.reduceSub, Nat.reduceMul, reduceCtorEq, Int.reduceEq, Int.reduceLT, Int.reduceLE, Int.reduceNeg, Int.reduceAdd, Int.reduceSub]
          case' neg.inr.inl =>
            have f3 : (((a0 + 1 : Nat) : Int) < (s.length : Int)) = False := eq_false (by omega)
            simp +contextual (maxSteps := 1000000) only [hb, nb, bn, f0, f1, f2, f3, w1, e34, e95, e39, h2, q1, List.getElem?_eq_getElem h0, Int.toNat_natCast, ↓wA, wB, wZ, repeatV, RX.evs, spl, over, ones, Ex.ends, evR, oneOf, top, ↓reduceIte, Nat.reduceEqDiff, Nat.reduceLeDiff, Nat.reduceAdd, Nat.reduceSub, Nat.reduceMul, reduceCtorEq, Int.reduceEq, Int.reduceLT, Int.reduceLE, Int.reduceNeg, Int.reduceAdd, Int.reduceSub]
          case' neg.inr.inr =>
            have f3 : (((a0 + 1 : Nat) : Int) < (s.length : Int)) = True := eq_true (by omega)
            simp +contextual (maxSteps := 1000000) only [hb, nb, bn, f0, f1, f2, f3, w1, e34, e95, e39, h2, q1, List.getElem?_eq_getElem h0, List.getElem?_eq_getElem hlt, Int.toNat_natCast, ↓wA, wB, wZ, repeatV, RX.evs, spl, over, ones, Ex.ends, evR, oneOf, top, ↓reduceIte, Nat.reduceEqDiff, Nat.reduceLeDiff, Nat.reduceAdd, Nat.reduceSub, Nat.reduceMul, reduceCtorEq, Int.reduceEq, Int.reduceLT, Int.reduceLE, Int.reduceNeg, Int.reduceAdd, Int.reduceSub]
            refine callK_pure (small_pure _ _) ?_
            rw [q2]
            simp +contextual (maxSteps := 1000000) only [hb, nb, bn, f0, f1, f2, f3, w1, e34, e95, e39, h2, q1, List.getElem?_eq_getElem h0, List.getElem?_eq_getElem hlt, Int.toNat_natCast, ↓wA, wB, wZ, repeatV, RX.evs, spl, over, ones, Ex.ends, evR, oneOf, top, ↓reduceIte, Nat.reduceEqDiff, Nat.reduceLeDiff, Nat.reduceAdd, Nat.reduceSub, Nat.reduceMul, reduceCtorEq, Int.reduceEq, Int.reduceLT, Int.reduceLE, Int.reduceNeg, Int.reduceAdd, Int.reduceSub]
          all_goals
            refine callK_intro (signs_ctr _) ?_
            rintro x hp ⟨rfl, rfl⟩
            simp +contextual only [↓wA, wB, wZ, repeatV, RX.evs, spl, over, ones, Ex.ends, evR, oneOf, top, ↓reduceIte, Nat.reduceEqDiff, Nat.reduceLeDiff, Nat.reduceAdd, Nat.reduceSub, Nat.reduceMul, reduceCtorEq, Int.reduceEq, Int.reduceLT, Int.reduceLE, Int.reduceNeg, Int.reduceAdd, Int.reduceSub]
            refine loopK_intro (fun r h' => r 0 = .ptr b 0 ∧ r 2 = .ptr (pa h.next) 0 ∧ r 77 = .slice (pa (h.next + 1)) 0 17 17 ∧ r 78 = .int .i64 17 ∧ ∃ i : Nat, i ≤ 17 ∧ r 79 = .int .i64 i ∧ h' = (h.new (.ofL [.int .i64 0, .int .i64 0, .int .i64 0, .str []] 0 false)).new (.ofL signVs 0 false) ∧
              signList.find? (·.isPrefixOf (s.drop a0)) = (signList.drop i).find? (·.isPrefixOf (s.drop a0))) (fun r h' => 17 - (r 79).toN) ?_ ?_
            · exact ⟨by simp only [↓wA, wB, wZ, repeatV, RX.evs, spl, over, ones, Ex.ends, evR, oneOf, top, ↓reduceIte, Nat.reduceEqDiff, Nat.reduceLeDiff, Nat.reduceAdd, Nat.reduceSub, Nat.reduceMul, reduceCtorEq, Int.reduceEq, Int.reduceLT, Int.reduceLE, Int.reduceNeg, Int.reduceAdd, Int.reduceSub], by simp only [↓wA, wB, wZ, repeatV, RX.evs, spl, over, ones, Ex.ends, evR, oneOf, top, ↓reduceIte, Nat.reduceEqDiff, Nat.reduceLeDiff, Nat.reduceAdd, Nat.reduceSub, Nat.reduceMul, reduceCtorEq, Int.reduceEq, Int.reduceLT, Int.reduceLE, Int.reduceNeg, Int.reduceAdd, Int.reduceSub], by simp only [↓wA, wB, wZ, repeatV, RX.evs, spl, over, ones, Ex.ends, evR, oneOf, top, ↓reduceIte, Nat.reduceEqDiff, Nat.reduceLeDiff, Nat.reduceAdd, Nat.reduceSub, Nat.reduceMul, reduceCtorEq, Int.reduceEq, Int.reduceLT, Int.reduceLE, Int.reduceNeg, Int.reduceAdd, Int.reduceSub], by simp only [c17, ↓wA, wB, wZ, repeatV, RX.evs, spl, over, ones, Ex.ends, evR, oneOf, top, ↓reduceIte, Nat.reduceEqDiff, Nat.reduceLeDiff, Nat.reduceAdd, Nat.reduceSub, Nat.reduceMul, reduceCtorEq, Int.reduceEq, Int.reduceLT, Int.reduceLE, Int.reduceNeg, Int.reduceAdd, Int.reduceSub], 0, by omega, by simp only [↓wA, wB, wZ, repeatV, RX.evs, spl, over, ones, Ex.ends, evR, oneOf, top, ↓reduceIte, Nat.reduceEqDiff, Nat.reduceLeDiff, Nat.reduceAdd, Nat.reduceSub, Nat.reduceMul, reduceCtorEq, Int.reduceEq, Int.reduceLT, Int.reduceLE, Int.reduceNeg, Int.reduceAdd, Int.reduceSub]; rfl, rfl, rfl⟩
            · rintro r h' ⟨r0, r2, r77, r78, i, hi, r79, rfl, hfind⟩
              unfold c26l1
              have hobn : Old ((h.new (.ofL [.int .i64 0, .int .i64 0, .int .i64 0, .str []] 0 false)).new (.ofL signVs 0 false)) b := (hx.new _).old hob
              have hgb : ((h.new (.ofL [.int .i64 0, .int .i64 0, .int .i64 0, .str []] 0 false)).new (.ofL signVs 0 false)).get b = .ofL [.str s, .int .i64 a0, .int .i64 0] 0 false := by rw [(hx.new _).get _ hob, hb]
              have nb1 : (b = pa (h.next + 1)) = False := new_ne hob (by omega)
              have bn1 : (pa (h.next + 1) = b) = False := by rw [← nb1]; exact propext eq_comm
              by_cases hlt' : i < 17
              · have g0 : ((i : Int) < 17) = True := eq_true (by omega)
                have g1 : (0 ≤ (i : Int)) = True := eq_true (by omega)
                rw [find_step _ hlt'] at hfind
                have hlen := two _ (List.getElem_mem (h := (show i < signList.length from hlt')))
                simp +contextual only [c17, r0, r2, r77, r78, r79, g0, g1, nb, bn, nb1, bn1, Int.toNat_natCast, Nat.mul_one, signVs_get hlt', ↓wA, wB, wZ, repeatV, RX.evs, spl, over, ones, Ex.ends, evR, oneOf, top, ↓reduceIte, Nat.reduceEqDiff, Nat.reduceLeDiff, Nat.reduceAdd, Nat.reduceSub, Nat.reduceMul, reduceCtorEq, Int.reduceEq, Int.reduceLT, Int.reduceLE, Int.reduceNeg, Int.reduceAdd, Int.reduceSub]
                refine callK_pure (has_pure s _ (a0 : Int) [.int .i64 0] b 0 false _ hgb (by omega) (by omega)) ?_
                rw [Int.toNat_natCast]
                cases hpre : (signList[i]'hlt').isPrefixOf (s.drop a0) with
                | true =>
                  rw [hpre, if_pos rfl] at hfind
                  have hl2 : (signList[i]'hlt').length ≤ s.length - a0 := by
                    rw [List.isPrefixOf_iff_prefix] at hpre
                    have := hpre.length_le
                    rwa [List.length_drop] at this
                  have w3 : IntKind.i64.wrap ((a0 : Int) + ((signList[i]'hlt').length : Int)) = ((a0 + (signList[i]'hlt').length : Nat) : Int) := by rw [wrap_i64 (by omega) (by omega)]; rfl
                  simp +contextual only [c17, r0, r2, r77, r78, r79, g0, g1, w3, nb, bn, nb1, bn1, hb, ↓wA, wB, wZ, repeatV, RX.evs, spl, over, ones, Ex.ends, evR, oneOf, top, ↓reduceIte, Nat.reduceEqDiff, Nat.reduceLeDiff, Nat.reduceAdd, Nat.reduceSub, Nat.reduceMul, reduceCtorEq, Int.reduceEq, Int.reduceLT, Int.reduceLE, Int.reduceNeg, Int.reduceAdd, Int.reduceSub]
                  unfold signM
                  rw [hfind]
                  refine ⟨(((hx.new _).mod _).self _).fresh (Nat.le_refl _) _, _, _, _, rfl, rfl, rfl, rfl, ?_, by show a0 + (signList[i]'hlt').length ≤ s.length; omega⟩
                  simp only [scB, nb, bn, ↓wA, wB, wZ, repeatV, RX.evs, spl, over, ones, Ex.ends, evR, oneOf, top, ↓reduceIte, Nat.reduceEqDiff, Nat.reduceLeDiff, Nat.reduceAdd, Nat.reduceSub, Nat.reduceMul, reduceCtorEq, Int.reduceEq, Int.reduceLT, Int.reduceLE, Int.reduceNeg, Int.reduceAdd, Int.reduceSub]
                | false =>
                  rw [hpre, if_neg Bool.false_ne_true] at hfind
                  have w3 : IntKind.i64.wrap ((i : Int) + 1) = ((i + 1 : Nat) : Int) := by rw [wrap_i64 (by omega) (by omega)]; rfl
                  simp +contextual only [c17, r0, r2, r77, r78, r79, g0, g1, w3, nb, bn, nb1, bn1, hb, ↓wA, wB, wZ, repeatV, RX.evs, spl, over, ones, Ex.ends, evR, oneOf, top, ↓reduceIte, Nat.reduceEqDiff, Nat.reduceLeDiff, Nat.reduceAdd, Nat.reduceSub, Nat.reduceMul, reduceCtorEq, Int.reduceEq, Int.reduceLT, Int.reduceLE, Int.reduceNeg, Int.reduceAdd, Int.reduceSub]
                  exact ⟨⟨i + 1, by omega, rfl, hfind⟩, by omega⟩
              · obtain rfl : i = 17 := by omega
                have hnone : signList.find? (·.isPrefixOf (s.drop a0)) = none := by rw [hfind]; rfl
                have g0 : ((17 : Int) < 17) = False := eq_false (by omega)
                simp +contextual only [c17, r0, r2, r77, r78, r79, g0, hgb, nb, bn, nb1, bn1, hb, ↓wA, wB, wZ, repeatV, RX.evs, spl, over, ones, Ex.ends, evR, oneOf, top, ↓reduceIte, Nat.reduceEqDiff, Nat.reduceLeDiff, Nat.reduceAdd, Nat.reduceSub, Nat.reduceMul, reduceCtorEq, Int.reduceEq, Int.reduceLT, Int.reduceLE, Int.reduceNeg, Int.reduceAdd, Int.reduceSub]
                unfold signM
                rw [hnone]
                refine ⟨(((hx.new _).mod _).self _).fresh (Nat.le_refl _) _, _, _, _, rfl, by decide, (a0 : Int), ?_⟩
                simp only [scB, nb, bn, ↓wA, wB, wZ, repeatV, RX.evs, spl, over, ones, Ex.ends, evR, oneOf, top, ↓reduceIte, Nat.reduceEqDiff, Nat.reduceLeDiff, Nat.reduceAdd, Nat.reduceSub, Nat.reduceMul, reduceCtorEq, Int.reduceEq, Int.reduceLT, Int.reduceLE, Int.reduceNeg, Int.reduceAdd, Int.reduceSub]
end Go.Proofs.YthcgccnbhdociaaDoor

namespace Go.Proofs.YthcgccnbhdociaaDoor
open Go Am
set_option linter.unusedSectionVars false
set_option linter.unusedSimpArgs false
set_option linter.unusedVariables false

theorem get_ba (s : List UInt8) (i : Nat) : (ByteArray.mk ⟨s⟩).get! i = (s[i]?).getD 0 := by
  show (Array.mk s)[i]! = _
  simp
  rfl
theorem decode_drop (s : List UInt8) (a : Nat) : Lib.decodeGo ⟨⟨s.drop a⟩⟩ = if a < s.length then decodeL s a else (65533, 0) := by
  unfold Lib.decodeGo decodeL
  have hz : (ByteArray.mk ⟨s.drop a⟩).size = s.length - a := by
    show (s.drop a).length = _
    rw [List.length_drop]
  have hz2 : (ByteArray.mk ⟨s⟩).size = s.length := rfl
  by_cases ha : a < s.length
  · rw [if_pos ha, if_neg (by rw [hz]; omega), Lib.decode_at, Lib.decode_at, hz, hz2]
    simp only [get_ba, List.getElem?_drop, Nat.add_zero, Nat.sub_zero, Nat.zero_add]
  · rw [if_neg ha, if_pos (by rw [hz]; omega)]

theorem nextV_iter {h : Heap} {b : Pa} {s : List UInt8} {a : Nat} (hg : h.get b = .iter s a) :
    nextV (.ptr b 0) h = if a < s.length then .val (.tuple [.bool true, .int .i64 a, .int .i32 (decodeL s a).1]) (h.set b (.iter s (a + (decodeL s a).2))) else .val (.tuple [.bool false]) h := by
  unfold nextV
  simp only [V.onPtr, hg]
  rw [show Nat.beq 0 0 = true from rfl]
  simp only [cond_true]
  by_cases ha : a < s.length
  · rw [if_pos ha, show Nat.blt a s.length = true from by rw [Nat.blt_eq]; exact ha]
    rfl
  · rw [if_neg ha, show Nat.blt a s.length = false from by rw [← Bool.not_eq_true, Nat.blt_eq]; exact ha]
    rfl

def iterLeft (s : List UInt8) : Blk → Nat
  | .iter _ a => s.length - a
  | _ => 0

theorem decodeL_pos (s : List UInt8) (a : Nat) : 1 ≤ (decodeL s a).2 := by
  unfold decodeL
  rw [Lib.decode_at]
  unfold Lib.decodeN
  repeat' split
  all_goals simp

theorem right_ctr (s : List UInt8) (hs : s.length ≤ 100000) (h : Heap) : Ctr Tryd.prog 13 [.str s] h fun x h' => x = .int .i64 (rightM s : Nat) ∧ Ext h h' := by
  refine c13_ctr rfl (wpK_of ?_)
  unfold c13
  simp +contextual only [↓wA, wB, wZ, repeatV, RX.evs, spl, over, ones, Ex.ends, evR, oneOf, top, ↓reduceIte, Nat.reduceEqDiff, Nat.reduceLeDiff, Nat.reduceAdd, Nat.reduceSub, Nat.reduceMul, reduceCtorEq, Int.reduceEq, Int.reduceLT, Int.reduceLE, Int.reduceNeg, Int.reduceAdd, Int.reduceSub]
  refine loopK_intro (fun r h' => r 0 = .str s ∧ r 8 = .ptr (pa h.next) 0 ∧ Ext h h' ∧ ∃ a, h'.get (pa h.next) = .iter s a ∧ rightM s = rightA s a) (fun r h' => iterLeft s (h'.get (pa h.next))) ?_ ?_
  · exact ⟨by simp only [↓wA, wB, wZ, repeatV, RX.evs, spl, over, ones, Ex.ends, evR, oneOf, top, ↓reduceIte, Nat.reduceEqDiff, Nat.reduceLeDiff, Nat.reduceAdd, Nat.reduceSub, Nat.reduceMul, reduceCtorEq, Int.reduceEq, Int.reduceLT, Int.reduceLE, Int.reduceNeg, Int.reduceAdd, Int.reduceSub], by simp only [↓wA, wB, wZ, repeatV, RX.evs, spl, over, ones, Ex.ends, evR, oneOf, top, ↓reduceIte, Nat.reduceEqDiff, Nat.reduceLeDiff, Nat.reduceAdd, Nat.reduceSub, Nat.reduceMul, reduceCtorEq, Int.reduceEq, Int.reduceLT, Int.reduceLE, Int.reduceNeg, Int.reduceAdd, Int.reduceSub], (Ext.refl h).new _, 0, by simp only [↓wA, wB, wZ, repeatV, RX.evs, spl, over, ones, Ex.ends, evR, oneOf, top, ↓reduceIte, Nat.reduceEqDiff, Nat.reduceLeDiff, Nat.reduceAdd, Nat.reduceSub, Nat.reduceMul, reduceCtorEq, Int.reduceEq, Int.reduceLT, Int.reduceLE, Int.reduceNeg, Int.reduceAdd, Int.reduceSub], rfl⟩
  · rintro r h' ⟨r0, r8, hx, a, hg, ha⟩
    unfold c13l1
    have hnx := nextV_iter hg
    by_cases hlt : a < s.length
    · rw [if_pos hlt] at hnx
      have hp := decodeL_pos s a
      by_cases hc : (decodeL s a).1 = 65533
      · have hc' : (((decodeL s a).1 : Int) = 65533) = True := eq_true (by omega)
        have f0 : (0 ≤ (a : Int)) = True := eq_true (by omega)
        have f1 : ((a : Int) ≤ (s.length : Int)) = True := eq_true (by omega)
        simp +contextual only [r0, r8, hnx, hc', f0, f1, Int.toNat_natCast, ↓wA, wB, wZ, repeatV, RX.evs, spl, over, ones, Ex.ends, evR, oneOf, top, ↓reduceIte, Nat.reduceEqDiff, Nat.reduceLeDiff, Nat.reduceAdd, Nat.reduceSub, Nat.reduceMul, reduceCtorEq, Int.reduceEq, Int.reduceLT, Int.reduceLE, Int.reduceNeg, Int.reduceAdd, Int.reduceSub]
        refine callK_pure (decode_calls _ _) ?_
        rw [decode_drop, if_pos hlt]
        by_cases hw : (decodeL s a).2 = 1
        · have hw' : (((decodeL s a).2 : Int) = 1) = True := eq_true (by omega)
          have hcw : cw s a = 0 := by unfold cw; rw [if_pos (Prod.ext hc hw)]
          rw [rightA_bad hlt hcw] at ha
          simp +contextual only [r0, r8, hnx, hc', hw', f0, f1, Int.toNat_natCast, ↓wA, wB, wZ, repeatV, RX.evs, spl, over, ones, Ex.ends, evR, oneOf, top, ↓reduceIte, Nat.reduceEqDiff, Nat.reduceLeDiff, Nat.reduceAdd, Nat.reduceSub, Nat.reduceMul, reduceCtorEq, Int.reduceEq, Int.reduceLT, Int.reduceLE, Int.reduceNeg, Int.reduceAdd, Int.reduceSub]
          rw [ha]
          exact ⟨rfl, hx.set (Nat.le_refl _) _⟩
        · have hw' : (((decodeL s a).2 : Int) = 1) = False := eq_false (by omega)
          have hcw : cw s a = (decodeL s a).2 := by unfold cw; rw [if_neg (fun q => hw (congrArg Prod.snd q))]
          rw [rightA_step hlt (by rw [hcw]; omega), hcw] at ha
          simp +contextual only [r0, r8, hnx, hc', hw', f0, f1, Int.toNat_natCast, ↓wA, wB, wZ, repeatV, RX.evs, spl, over, ones, Ex.ends, evR, oneOf, top, ↓reduceIte, Nat.reduceEqDiff, Nat.reduceLeDiff, Nat.reduceAdd, Nat.reduceSub, Nat.reduceMul, reduceCtorEq, Int.reduceEq, Int.reduceLT, Int.reduceLE, Int.reduceNeg, Int.reduceAdd, Int.reduceSub]
          refine ⟨⟨hx.set (Nat.le_refl _) _, _, rfl, ha⟩, ?_⟩
          rw [hg]
          show s.length - (a + (decodeL s a).2) < s.length - a
          omega
      · have hc' : (((decodeL s a).1 : Int) = 65533) = False := eq_false (by omega)
        have hcw : cw s a = (decodeL s a).2 := by unfold cw; rw [if_neg (fun q => hc (congrArg Prod.fst q))]
        rw [rightA_step hlt (by rw [hcw]; omega), hcw] at ha
        simp +contextual only [r0, r8, hnx, hc', Int.toNat_natCast, ↓wA, wB, wZ, repeatV, RX.evs, spl, over, ones, Ex.ends, evR, oneOf, top, ↓reduceIte, Nat.reduceEqDiff, Nat.reduceLeDiff, Nat.reduceAdd, Nat.reduceSub, Nat.reduceMul, reduceCtorEq, Int.reduceEq, Int.reduceLT, Int.reduceLE, Int.reduceNeg, Int.reduceAdd, Int.reduceSub]
        refine ⟨⟨hx.set (Nat.le_refl _) _, _, rfl, ha⟩, ?_⟩
        rw [hg]
        show s.length - (a + (decodeL s a).2) < s.length - a
        omega
    · rw [if_neg hlt] at hnx
      rw [rightA_end (by omega)] at ha
      simp +contextual only [r0, r8, hnx, Int.toNat_natCast, ↓wA, wB, wZ, repeatV, RX.evs, spl, over, ones, Ex.ends, evR, oneOf, top, ↓reduceIte, Nat.reduceEqDiff, Nat.reduceLeDiff, Nat.reduceAdd, Nat.reduceSub, Nat.reduceMul, reduceCtorEq, Int.reduceEq, Int.reduceLT, Int.reduceLE, Int.reduceNeg, Int.reduceAdd, Int.reduceSub]
      rw [ha]
      exact ⟨rfl, hx⟩
end Go.Proofs.YthcgccnbhdociaaDoor

namespace Go.Proofs.YthcgccnbhdociaaDoor
open Go Am
set_option linter.unusedSectionVars false
set_option linter.unusedSimpArgs false
set_option linter.unusedVariables false

def Wd.enc (w : Wd) : List V := [.int .i64 w.kind, .int .i64 w.num, .int .i64 w.pos, .str w.text]
def wdsV : List Wd → List V
  | [] => []
  | w :: ws => w.enc ++ wdsV ws
theorem wdsV_append : ∀ a b : List Wd, wdsV (a ++ b) = wdsV a ++ wdsV b
  | [], b => rfl
  | w :: a, b => by simp only [wdsV, List.cons_append, wdsV_append a b, List.append_assoc]
theorem wdsV_len : ∀ a : List Wd, (wdsV a).length = a.length * 4
  | [] => rfl
  | w :: a => by simp only [wdsV, List.length_append, wdsV_len a, List.length_cons, Wd.enc, List.length_nil]; omega
def prep (ws : List Wd) : Except (Int × Nat) (List Wd) → Except (Int × Nat) (List Wd)
  | .ok w2 => .ok (ws ++ w2)
  | .error e => .error e
theorem prep_cons (ws : List Wd) (w : Wd) (r : Except (Int × Nat) (List Wd)) : prep ws (consOk w r) = prep (ws ++ [w]) r := by
  cases r with
  | ok w2 => simp [prep, consOk]
  | error e => rfl
theorem prep_nil (r : Except (Int × Nat) (List Wd)) : prep [] r = r := by cases r <;> rfl

/-- what Lex hands back -/
def LexOut (s : List UInt8) (h : Heap) (x : V) (h' : Heap) : Prop := Ext h h' ∧ match lexM s with
  | .ok ws => ∃ v, x = .tuple [v, .agg [.int .i64 0, .int .i64 0]] ∧ SlO h.next h' 4 v ws.length (wdsV ws)
  | .error e => x = .tuple [.nilslice, .agg [.int .i64 e.1, .int .i64 e.2]]

theorem blank_ix (c : UInt8) : (0 ≤ Lib.indexByte [9, 10, 13, 32] c) = (blank c = true) := by
  have h0 : ∀ d : UInt8, (d == c) = decide (c = d) := fun d => by
    by_cases q : c = d
    · subst q; simp
    · have q' : ¬ d = c := fun e => q e.symm
      simp [q, q']
  simp only [Lib.indexByte, h0, blank]
  by_cases h1 : c = 9
  · subst h1; decide
  · by_cases h2 : c = 10
    · subst h2; decide
    · by_cases h3 : c = 13
      · subst h3; decide
      · by_cases h4 : c = 32
        · subst h4; decide
        · simp [h1, h2, h3, h4]

theorem lex_ctr (s : List UInt8) (h : Heap) : Ctr Tryd.prog 10 [.str s] h (LexOut s h) := by
  refine c10_ctr rfl (wpK_of ?_)
  unfold c10
  by_cases hlong : (65536 : Int) < (s.length : Int)
  · simp +contextual only [hlong, ↓wA, wB, wZ, repeatV, RX.evs, spl, over, ones, Ex.ends, evR, oneOf, top, ↓reduceIte, Nat.reduceEqDiff, Nat.reduceLeDiff, Nat.reduceAdd, Nat.reduceSub, Nat.reduceMul, reduceCtorEq, Int.reduceEq, Int.reduceLT, Int.reduceLE, Int.reduceNeg, Int.reduceAdd, Int.reduceSub]
    refine ⟨((Ext.refl h).new _).set (Nat.le_refl _) _, ?_⟩
    unfold lexM
    rw [if_pos (by omega)]
    rfl
  simp +contextual only [hlong, ↓wA, wB, wZ, repeatV, RX.evs, spl, over, ones, Ex.ends, evR, oneOf, top, ↓reduceIte, Nat.reduceEqDiff, Nat.reduceLeDiff, Nat.reduceAdd, Nat.reduceSub, Nat.reduceMul, reduceCtorEq, Int.reduceEq, Int.reduceLT, Int.reduceLE, Int.reduceNeg, Int.reduceAdd, Int.reduceSub]
  refine callK_intro (right_ctr s (by omega) _) ?_
  rintro x h1 ⟨rfl, hx1⟩
  have hx : Ext h (h.new (.ofL [.int .i64 0, .int .i64 0] 0 false)) := (Ext.refl h).new _
  have hx2 := hx.trans hx1
  have g1 : h1.get (pa h.next) = .ofL [.int .i64 0, .int .i64 0] 0 false := by
    rw [hx1.get _ (old_lt (by rw [next_new]; omega))]
    simp only [↓wA, wB, wZ, repeatV, RX.evs, spl, over, ones, Ex.ends, evR, oneOf, top, ↓reduceIte, Nat.reduceEqDiff, Nat.reduceLeDiff, Nat.reduceAdd, Nat.reduceSub, Nat.reduceMul, reduceCtorEq, Int.reduceEq, Int.reduceLT, Int.reduceLE, Int.reduceNeg, Int.reduceAdd, Int.reduceSub]
  have nx1 : h.next + 1 ≤ h1.next := hx1.next
  have n0 : (pa h1.next = pa h.next) = False := by rw [pa_eq]; exact eq_false (by omega)
  have n1 : (pa h.next = pa h1.next) = False := by rw [pa_eq]; exact eq_false (by omega)
  have n0' : (h1.next = h.next) = False := eq_false (by omega)
  have n1' : (h.next = h1.next) = False := eq_false (by omega)
  have hlen : ¬ 65536 < s.length := by omega
  by_cases hr : rightM s < s.length
  · have hr' : ((rightM s : Int) < (s.length : Int)) = True := eq_true (by omega)
    simp +contextual only [hr', g1, n0, n1, n0', n1', ↓wA, wB, wZ, repeatV, RX.evs, spl, over, ones, Ex.ends, evR, oneOf, top, ↓reduceIte, Nat.reduceEqDiff, Nat.reduceLeDiff, Nat.reduceAdd, Nat.reduceSub, Nat.reduceMul, reduceCtorEq, Int.reduceEq, Int.reduceLT, Int.reduceLE, Int.reduceNeg, Int.reduceAdd, Int.reduceSub]
    refine ⟨hx2.set (Nat.le_refl _) _, ?_⟩
    unfold lexM
    rw [if_neg hlen, if_pos hr]
  have hr' : ((rightM s : Int) < (s.length : Int)) = False := eq_false (by omega)
  have hlm : lexM s = lexR s 0 := by unfold lexM; rw [if_neg hlen, if_neg hr]
  simp +contextual only [hr', g1, n0, n1, n0', n1', ↓wA, wB, wZ, repeatV, RX.evs, spl, over, ones, Ex.ends, evR, oneOf, top, ↓reduceIte, Nat.reduceEqDiff, Nat.reduceLeDiff, Nat.reduceAdd, Nat.reduceSub, Nat.reduceMul, reduceCtorEq, Int.reduceEq, Int.reduceLT, Int.reduceLE, Int.reduceNeg, Int.reduceAdd, Int.reduceSub]
  have hx3 : Ext h (h1.new (.ofL [.str s, .int .i64 0, .int .i64 0] 0 false)) := hx2.new _
  refine loopK_intro (fun r h' => r 0 = .str s ∧ r 3 = .ptr (pa h.next) 0 ∧ r 5 = .ptr (pa h1.next) 0 ∧ ∃ (a : Nat) (ws : List Wd) (v : V), r 6 = v ∧ h'.get (pa h1.next) = .ofL [.str s, .int .i64 a, .int .i64 0] 0 false ∧ a ≤ s.length ∧ ws.length ≤ a ∧
      h'.get (pa h.next) = .ofL [.int .i64 0, .int .i64 0] 0 false ∧ Ext h h' ∧ h1.next + 1 ≤ h'.next ∧ SlO (h1.next + 1) h' 4 v ws.length (wdsV ws) ∧ lexM s = prep ws (lexR (s.drop a) a))
    (fun r h' => s.length - ((ld1B (h'.get (pa h1.next)) 1).getD .bad).toN) ?_ ?_
  · refine ⟨by simp only [↓wA, wB, wZ, repeatV, RX.evs, spl, over, ones, Ex.ends, evR, oneOf, top, ↓reduceIte, Nat.reduceEqDiff, Nat.reduceLeDiff, Nat.reduceAdd, Nat.reduceSub, Nat.reduceMul, reduceCtorEq, Int.reduceEq, Int.reduceLT, Int.reduceLE, Int.reduceNeg, Int.reduceAdd, Int.reduceSub], by simp only [↓wA, wB, wZ, repeatV, RX.evs, spl, over, ones, Ex.ends, evR, oneOf, top, ↓reduceIte, Nat.reduceEqDiff, Nat.reduceLeDiff, Nat.reduceAdd, Nat.reduceSub, Nat.reduceMul, reduceCtorEq, Int.reduceEq, Int.reduceLT, Int.reduceLE, Int.reduceNeg, Int.reduceAdd, Int.reduceSub], by simp only [↓wA, wB, wZ, repeatV, RX.evs, spl, over, ones, Ex.ends, evR, oneOf, top, ↓reduceIte, Nat.reduceEqDiff, Nat.reduceLeDiff, Nat.reduceAdd, Nat.reduceSub, Nat.reduceMul, reduceCtorEq, Int.reduceEq, Int.reduceLT, Int.reduceLE, Int.reduceNeg, Int.reduceAdd, Int.reduceSub], 0, [], .nilslice, by simp only [↓wA, wB, wZ, repeatV, RX.evs, spl, over, ones, Ex.ends, evR, oneOf, top, ↓reduceIte, Nat.reduceEqDiff, Nat.reduceLeDiff, Nat.reduceAdd, Nat.reduceSub, Nat.reduceMul, reduceCtorEq, Int.reduceEq, Int.reduceLT, Int.reduceLE, Int.reduceNeg, Int.reduceAdd, Int.reduceSub], by simp only [↓wA, wB, wZ, repeatV, RX.evs, spl, over, ones, Ex.ends, evR, oneOf, top, ↓reduceIte, Nat.reduceEqDiff, Nat.reduceLeDiff, Nat.reduceAdd, Nat.reduceSub, Nat.reduceMul, reduceCtorEq, Int.reduceEq, Int.reduceLT, Int.reduceLE, Int.reduceNeg, Int.reduceAdd, Int.reduceSub]; rfl, by omega, by simp, by simp only [g1, n0, n0', n1, n1', ↓wA, wB, wZ, repeatV, RX.evs, spl, over, ones, Ex.ends, evR, oneOf, top, ↓reduceIte, Nat.reduceEqDiff, Nat.reduceLeDiff, Nat.reduceAdd, Nat.reduceSub, Nat.reduceMul, reduceCtorEq, Int.reduceEq, Int.reduceLT, Int.reduceLE, Int.reduceNeg, Int.reduceAdd, Int.reduceSub], hx3, ?_, ⟨rfl, rfl⟩, ?_⟩
    · rw [next_new]; exact Nat.le_refl _
    · rw [hlm, List.drop_zero, prep_nil]
  · rintro r h' ⟨r0, r3, r5, a, ws, v, r6, hg, k1, kw, hz, hxx, hnx, hS, hok⟩
    unfold c10l1
    have hob : Old h' (pa h1.next) := old_lt (by omega)
    by_cases hend : (s.length : Int) ≤ (a : Int)
    · have ha : a = s.length := by omega
      have hok' : lexM s = .ok ws := by
        rw [hok, ha, List.drop_length]
        show Except.ok (ws ++ []) = _
        rw [List.append_nil]
      simp +contextual only [r0, r3, r5, r6, hg, hz, hend, n0, n1, n0', n1', ↓wA, wB, wZ, repeatV, RX.evs, spl, over, ones, Ex.ends, evR, oneOf, top, ↓reduceIte, Nat.reduceEqDiff, Nat.reduceLeDiff, Nat.reduceAdd, Nat.reduceSub, Nat.reduceMul, reduceCtorEq, Int.reduceEq, Int.reduceLT, Int.reduceLE, Int.reduceNeg, Int.reduceAdd, Int.reduceSub]
      refine ⟨hxx.set (Nat.le_refl _) _, ?_⟩
      rw [hok']
      refine ⟨v, rfl, ?_⟩
      have := hS.mod ((Mod.refl (fun q => q = pa h.next) h').self (.ofL [.int .i64 0, .int .i64 0] 0 false)) (fun q hq e => by
        have h2 := hS.base hq
        rw [show q = pa h.next from e, unPa_pa] at h2
        omega)
      exact this.mono (by omega)
    · have hlt : a < s.length := by omega
      rw [drop_cons hlt, lexR_cons, ← drop_cons hlt] at hok
      have f0 : (0 ≤ (a : Int)) = True := eq_true (by omega)
      have f1 : ((a : Int) < (s.length : Int)) = True := eq_true (by omega)
      have w1 : IntKind.i64.wrap ((a : Int) + 1) = ((a + 1 : Nat) : Int) := by rw [wrap_i64 (by omega) (by omega)]; rfl
      simp +contextual only [r0, r3, r5, r6, hg, hz, hend, n0, n1, n0', n1', f0, f1, List.getElem?_eq_getElem hlt, Int.toNat_natCast, ↓wA, wB, wZ, repeatV, RX.evs, spl, over, ones, Ex.ends, evR, oneOf, top, ↓reduceIte, Nat.reduceEqDiff, Nat.reduceLeDiff, Nat.reduceAdd, Nat.reduceSub, Nat.reduceMul, reduceCtorEq, Int.reduceEq, Int.reduceLT, Int.reduceLE, Int.reduceNeg, Int.reduceAdd, Int.reduceSub]
      refine callK_pure (index23 _ _ _) ?_
      rw [u8_back]
      by_cases hbl : blank s[a] = true
      · have hbl' : (0 ≤ Lib.indexByte [9, 10, 13, 32] s[a]) = True := by rw [blank_ix, hbl]; exact eq_self _
        rw [if_pos hbl] at hok
        simp +contextual only [hbl', w1, r0, r3, r5, r6, hg, hz, hend, n0, n1, n0', n1', f0, f1, List.getElem?_eq_getElem hlt, Int.toNat_natCast, ↓wA, wB, wZ, repeatV, RX.evs, spl, over, ones, Ex.ends, evR, oneOf, top, ↓reduceIte, Nat.reduceEqDiff, Nat.reduceLeDiff, Nat.reduceAdd, Nat.reduceSub, Nat.reduceMul, reduceCtorEq, Int.reduceEq, Int.reduceLT, Int.reduceLE, Int.reduceNeg, Int.reduceAdd, Int.reduceSub]
        refine ⟨⟨a + 1, ws, rfl, by omega, by omega, hxx.set (by omega) _, hnx, ?_, hok⟩, by omega⟩
        exact hS.mod ((Mod.refl (fun q => q = pa h1.next) h').self _) (fun q hq e => by
          have h2 := hS.base hq
          rw [show q = pa h1.next from e, unPa_pa] at h2
          omega)
      · have hbl' : (0 ≤ Lib.indexByte [9, 10, 13, 32] s[a]) = False := by rw [blank_ix]; exact eq_false hbl
        rw [if_neg hbl] at hok
        simp +contextual only [hbl', w1, r0, r3, r5, r6, hg, hz, hend, n0, n1, n0', n1', f0, f1, List.getElem?_eq_getElem hlt, Int.toNat_natCast, ↓wA, wB, wZ, repeatV, RX.evs, spl, over, ones, Ex.ends, evR, oneOf, top, ↓reduceIte, Nat.reduceEqDiff, Nat.reduceLeDiff, Nat.reduceAdd, Nat.reduceSub, Nat.reduceMul, reduceCtorEq, Int.reduceEq, Int.reduceLT, Int.reduceLE, Int.reduceNeg, Int.reduceAdd, Int.reduceSub]
        have hpure := has_pure s [40, 42] (a : Int) [.int .i64 0] (pa h1.next) 0 false h' hg (by omega) (by omega)
        rw [Int.toNat_natCast] at hpure
        refine callK_pure hpure ?_
        cases hpre : ([40, 42] : List UInt8).isPrefixOf (s.drop a) with
        | true =>
          rw [hpre, if_pos rfl] at hok
          simp +contextual only [w1, r0, r3, r5, r6, hg, hz, hend, n0, n1, n0', n1', f0, f1, List.getElem?_eq_getElem hlt, Int.toNat_natCast, ↓wA, wB, wZ, repeatV, RX.evs, spl, over, ones, Ex.ends, evR, oneOf, top, ↓reduceIte, Nat.reduceEqDiff, Nat.reduceLeDiff, Nat.reduceAdd, Nat.reduceSub, Nat.reduceMul, reduceCtorEq, Int.reduceEq, Int.reduceLT, Int.reduceLE, Int.reduceNeg, Int.reduceAdd, Int.reduceSub]
          refine callK_intro (note_ctr s a 0 (pa h1.next) h' hg k1 (by omega) hob) ?_
          rintro x h2 ⟨rfl, hm, hn⟩
          have hz2 : h2.get (pa h.next) = .ofL [.int .i64 0, .int .i64 0] 0 false := by rw [hm.get _ (old_lt (by omega)) (by rw [n1]; exact id), hz]
          have hx4 : Ext h h2 := hxx.mod_new hm (fun b hb => by rw [show b = pa h1.next from hb, unPa_pa]; omega)
          have nx2 := hm.next
          have hS2 := hS.mod hm (fun q hq e => by
            have h2 := hS.base hq
            rw [show q = pa h1.next from e, unPa_pa] at h2
            omega)
          cases hnote : noteM (s.drop a) 0 with
          | some n =>
            rw [hnote] at hn hok
            obtain ⟨g2, hle⟩ := hn
            have hpos := noteM_pos hnote
            unfold scB at g2
            simp +contextual only [w1, r0, r3, r5, r6, g2, hg, hz2, hend, n0, n1, n0', n1', f0, f1, List.getElem?_eq_getElem hlt, Int.toNat_natCast, ↓wA, wB, wZ, repeatV, RX.evs, spl, over, ones, Ex.ends, evR, oneOf, top, ↓reduceIte, Nat.reduceEqDiff, Nat.reduceLeDiff, Nat.reduceAdd, Nat.reduceSub, Nat.reduceMul, reduceCtorEq, Int.reduceEq, Int.reduceLT, Int.reduceLE, Int.reduceNeg, Int.reduceAdd, Int.reduceSub]
            refine ⟨⟨a + n, ws, rfl, hle, by omega, hx4, by omega, hS2, ?_⟩, by omega⟩
            rw [hok]
            simp only [List.drop_drop]
          | none =>
            rw [hnote] at hn hok
            unfold scB at hn
            simp +contextual only [w1, r0, r3, r5, r6, hn, hg, hz2, hend, n0, n1, n0', n1', f0, f1, List.getElem?_eq_getElem hlt, Int.toNat_natCast, ↓wA, wB, wZ, repeatV, RX.evs, spl, over, ones, Ex.ends, evR, oneOf, top, ↓reduceIte, Nat.reduceEqDiff, Nat.reduceLeDiff, Nat.reduceAdd, Nat.reduceSub, Nat.reduceMul, reduceCtorEq, Int.reduceEq, Int.reduceLT, Int.reduceLE, Int.reduceNeg, Int.reduceAdd, Int.reduceSub]
            refine ⟨hx4.set (Nat.le_refl _) _, ?_⟩
            rw [hok]
            rfl
        | false =>
          rw [hpre, if_neg Bool.false_ne_true] at hok
          simp +contextual only [w1, r0, r3, r5, r6, hg, hz, hend, n0, n1, n0', n1', f0, f1, List.getElem?_eq_getElem hlt, Int.toNat_natCast, ↓wA, wB, wZ, repeatV, RX.evs, spl, over, ones, Ex.ends, evR, oneOf, top, ↓reduceIte, Nat.reduceEqDiff, Nat.reduceLeDiff, Nat.reduceAdd, Nat.reduceSub, Nat.reduceMul, reduceCtorEq, Int.reduceEq, Int.reduceLT, Int.reduceLE, Int.reduceNeg, Int.reduceAdd, Int.reduceSub]
          refine callK_intro (next_ctr s a (pa h1.next) h' hg hlt (by omega) hob) ?_
          rintro x h2 w
          obtain ⟨hm, k, n, t, rfl, hres⟩ := w
          have hz2 : h2.get (pa h.next) = .ofL [.int .i64 0, .int .i64 0] 0 false := by rw [hm.get _ (old_lt (by omega)) (by rw [n1]; exact id), hz]
          have hx4 : Ext h h2 := hxx.mod_new hm (fun b hb => by rw [show b = pa h1.next from hb, unPa_pa]; omega)
          have nx2 := hm.next
          have hS2 := hS.mod hm (fun q hq e => by
            have h2 := hS.base hq
            rw [show q = pa h1.next from e, unPa_pa] at h2
            omega)
          have m0 : (pa h2.next = pa h.next) = False := by rw [pa_eq]; exact eq_false (by omega)
          have m1 : (pa h2.next = pa h1.next) = False := by rw [pa_eq]; exact eq_false (by omega)
          have m0' : (h2.next = h.next) = False := eq_false (by omega)
          have m1' : (h2.next = h1.next) = False := eq_false (by omega)
          have hxn : Ext h2 (((h2.new (.ofL [.int .i64 0, .int .i64 0, .int .i64 0, .str []] 0 false)).set (pa h2.next) (.ofL [.int .i64 k, .int .i64 n, .int .i64 0, .str t] 0 false)).set (pa h2.next) (.ofL [.int .i64 k, .int .i64 n, .int .i64 a, .str t] 0 false)) := (((Ext.refl h2).new _).set (Nat.le_refl _) _).set (Nat.le_refl _) _
          obtain ⟨v3, h3, q1, q2, q3, q4, q5⟩ := app_one (cs := [.int .i64 k, .int .i64 n, .int .i64 a, .str t]) (by omega) (hS2.ext hxn) (by simp only [next_set, next_new]; omega) (by unfold top; omega) rfl rfl
          simp only [next_set, next_new] at q1 q4
          have hx5 : Ext h h3 := (hx4.trans hxn).mod_new q3 (fun b hb => Nat.le_trans (by omega) (hS2.base hb))
          have hz3 : h3.get (pa h.next) = .ofL [.int .i64 0, .int .i64 0] 0 false := by
            rw [q3.get _ (old_lt (by simp only [next_set, next_new]; omega)) (fun hq => by have := hS2.base hq; rw [unPa_pa] at this; omega), hxn.get _ (old_lt (by omega)), hz2]
          have hg3 : h3.get (pa h1.next) = h2.get (pa h1.next) := by
            rw [q3.get _ (old_lt (by simp only [next_set, next_new]; omega)) (fun hq => by have := hS2.base hq; rw [unPa_pa] at this; omega), hxn.get _ (old_lt (by omega))]
          cases hnx : nextM (s.drop a) with
          | ok q =>
            have hpos := nextM_pos hnx
            rw [hnx] at hres hok
            obtain ⟨rfl, rfl, rfl, g2, hle⟩ := hres
            unfold scB at g2
            rw [g2] at hg3
            simp +contextual only [q1, m0, m1, m0', m1', w1, r0, r3, r5, r6, g2, hg3, hg, hz2, hend, n0, n1, n0', n1', f0, f1, List.getElem?_eq_getElem hlt, Int.toNat_natCast, ↓wA, wB, wZ, repeatV, RX.evs, spl, over, ones, Ex.ends, evR, oneOf, top, ↓reduceIte, Nat.reduceEqDiff, Nat.reduceLeDiff, Nat.reduceAdd, Nat.reduceSub, Nat.reduceMul, reduceCtorEq, Int.reduceEq, Int.reduceLT, Int.reduceLE, Int.reduceNeg, Int.reduceAdd, Int.reduceSub]
            refine ⟨⟨a + q.2.2.2, ws ++ [⟨q.1, q.2.1, a, q.2.2.1⟩], rfl, hle, by simp; omega, hz3, hx5, by omega, ?_, ?_⟩, by omega⟩
            · rw [List.length_append, wdsV_append]
              exact q2
            · rw [hok, prep_cons]
              simp only [List.drop_drop]
          | error e =>
            rw [hnx] at hres hok
            obtain ⟨he, a', g2⟩ := hres
            unfold scB at g2
            rw [g2] at hg3
            simp +contextual only [he, q1, m0, m1, m0', m1', w1, r0, r3, r5, r6, g2, hg3, hz3, hg, hz2, hend, n0, n1, n0', n1', f0, f1, List.getElem?_eq_getElem hlt, Int.toNat_natCast, ↓wA, wB, wZ, repeatV, RX.evs, spl, over, ones, Ex.ends, evR, oneOf, top, ↓reduceIte, Nat.reduceEqDiff, Nat.reduceLeDiff, Nat.reduceAdd, Nat.reduceSub, Nat.reduceMul, reduceCtorEq, Int.reduceEq, Int.reduceLT, Int.reduceLE, Int.reduceNeg, Int.reduceAdd, Int.reduceSub]
            refine ⟨hx5.set (Nat.le_refl _) _, ?_⟩
            rw [hok]
            rfl
end Go.Proofs.YthcgccnbhdociaaDoor

namespace Go.Proofs.YthcgccnbhdociaaDoor
open Go Am
set_option linter.unusedSectionVars false
set_option linter.unusedSimpArgs false
set_option linter.unusedVariables false

end Go.Proofs.YthcgccnbhdociaaDoor

namespace Go.Proofs.YthcgccnbhdociaaDoor
open Go Am
set_option linter.unusedSectionVars false
set_option linter.unusedSimpArgs false
set_option linter.unusedVariables false

def strsV (L : List (List UInt8)) : List V := L.map V.str
theorem strsV_len (L : List (List UInt8)) : (strsV L).length = L.length := by simp [strsV]
theorem strsV_get {L : List (List UInt8)} {i : Nat} (hi : i < L.length) : (strsV L)[i]? = some (.str L[i]) := by
  unfold strsV
  rw [List.getElem?_map, List.getElem?_eq_getElem hi]
  rfl
theorem drop_contains {t : List UInt8} {L : List (List UInt8)} {i : Nat} (hi : i < L.length) : (L.drop i).contains t = (decide (L[i] = t) || (L.drop (i + 1)).contains t) := by
  rw [List.drop_eq_getElem_cons hi, List.contains_cons]
  congr 1
  rw [Bool.eq_iff_iff]
  simp
  exact eq_comm

/-- what the reader may change -/
abbrev RM (b : Pa) (B : Nat) : Pa → Prop := fun q => q = b ∨ B ≤ unPa q
end Go.Proofs.YthcgccnbhdociaaDoor

namespace Go.Proofs.YthcgccnbhdociaaDoor
open Go Am
set_option linter.unusedSectionVars false
set_option linter.unusedSimpArgs false
set_option linter.unusedVariables false

/-- what the reader's functions do: a word more, or an error -/
structure ROut (s : List UInt8) (p : Nat) (b : Pa) (B : Nat) (ws : List Wd) (h : Heap) (res : Res) (h' : Heap) : Prop where
  mod : Mod (RM b B) h h'
  res : ∃ v2, match res with
     | .ok q => h'.get b = rdB s ((p + q.2.2.2 : Nat) : Int) p 0 v2 ∧ p + q.2.2.2 ≤ s.length ∧ SlO B h' 4 v2 (ws.length + 1) (wdsV (ws ++ [⟨q.1, q.2.1, p, q.2.2.1⟩]))
     | .error e => e ≠ 0 ∧ ∃ a' : Int, h'.get b = rdB s a' p e v2

theorem key_head {t : List UInt8} (h : keyB t = true) : headSmall t = true ∧ t.length ≤ 9 := by
  have hm : t ∈ keyList := by unfold keyB at h; simpa using h
  have : ∀ t ∈ keyList, headSmall t = true ∧ t.length ≤ 9 := by decide
  exact this t hm

end Go.Proofs.YthcgccnbhdociaaDoor

namespace Go.Proofs.YthcgccnbhdociaaDoor
open Go Am
set_option linter.unusedSectionVars false
set_option linter.unusedSimpArgs false
set_option linter.unusedVariables false

def varM (r : List UInt8) : Res := if headSmall r then (nameM 5 r).map fun q => (q.1, q.2.1, q.2.2.1, q.2.2.2 + 1) else .error 251
end Go.Proofs.YthcgccnbhdociaaDoor

namespace Go.Proofs.YthcgccnbhdociaaDoor
open Go Am
set_option linter.unusedSectionVars false
set_option linter.unusedSimpArgs false
set_option linter.unusedVariables false

theorem wrap_u8 {n : Int} (h0 : 0 ≤ n) (h1 : n < 256) : IntKind.u8.wrap n = n := by
  simp [IntKind.wrap, IntKind.bits, IntKind.signed]
  omega
end Go.Proofs.YthcgccnbhdociaaDoor

namespace Go.Proofs.YthcgccnbhdociaaDoor
open Go Am
set_option linter.unusedSectionVars false
set_option linter.unusedSimpArgs false
set_option linter.unusedVariables false

theorem escM_cons (c : UInt8) (r : List UInt8) : escM (c :: r) = if c = 110 then some (10, 1) else if c = 116 then some (9, 1) else if c = 34 then some (34, 1) else if c = 92 then some (92, 1) else
    if 2 ≤ r.length ∧ dig c ∧ dig (r[0]?.getD 0) ∧ dig (r[1]?.getD 0) ∧ valM (c :: r.take 2) < 256 then some ((valM (c :: r.take 2)).toUInt8, 3) else none := rfl
end Go.Proofs.YthcgccnbhdociaaDoor

namespace Go.Proofs.YthcgccnbhdociaaDoor
open Go Am
set_option linter.unusedSectionVars false
set_option linter.unusedSimpArgs false
set_option linter.unusedVariables false

end Go.Proofs.YthcgccnbhdociaaDoor

namespace Go.Proofs.YthcgccnbhdociaaDoor
open Go Am
set_option linter.unusedSectionVars false
set_option linter.unusedSimpArgs false
set_option linter.unusedVariables false

end Go.Proofs.YthcgccnbhdociaaDoor

namespace Go.Proofs.YthcgccnbhdociaaDoor
open Go Am
set_option linter.unusedSectionVars false
set_option linter.unusedSimpArgs false
set_option linter.unusedVariables false

theorem signM_quote (r : List UInt8) : signM (39 :: r) = .error 251 := by
  unfold signM
  have h : ∀ L : List (List UInt8), (∀ t ∈ L, t ≠ [] ∧ t.head? ≠ some 39) → L.find? (·.isPrefixOf (39 :: r)) = none := by
    intro L hL
    rw [List.find?_eq_none]
    intro t ht
    obtain ⟨h1, h2⟩ := hL t ht
    cases t with
    | nil => exact absurd rfl h1
    | cons c t =>
      simp only [List.head?_cons, ne_eq, Option.some.injEq] at h2
      simp [List.isPrefixOf, h2]
  rw [h signList (by decide)]
theorem nextM_var (r : List UInt8) : nextM (39 :: r) = varM r := by
  unfold varM
  simp only [nextM]
  rw [if_neg (by decide), if_neg (by decide), if_neg (by decide), if_neg (by decide)]
  cases h : headSmall r with
  | true => rw [if_pos (by simp), if_pos rfl]
  | false => rw [if_neg (by simp), if_neg (by simp), signM_quote]

end Go.Proofs.YthcgccnbhdociaaDoor

namespace Go.Proofs.YthcgccnbhdociaaDoor
open Go Am
set_option linter.unusedSectionVars false
set_option linter.unusedSimpArgs false
set_option linter.unusedVariables false

end Go.Proofs.YthcgccnbhdociaaDoor

namespace Go.Proofs.YthcgccnbhdociaaDoor
open Go Am
set_option linter.unusedSectionVars false
set_option linter.unusedSimpArgs false
set_option linter.unusedVariables false

theorem neq31 (a b : Wd) : (BK.other .neq 31).run Tryd.prog (.agg a.enc) (.agg b.enc) = some (.bool (!decide (a = b))) := by
  obtain ⟨k, n, p, t⟩ := a
  obtain ⟨k', n', p', t'⟩ := b
  have h : (BK.other .neq 31).run Tryd.prog (.agg [.int .i64 k, .int .i64 n, .int .i64 p, .str t]) (.agg [.int .i64 k', .int .i64 n', .int .i64 p', .str t']) =
   (match (bif Int.eqB k k' then (bif Int.eqB n n' then (bif Int.eqB p p' then (bif beqBytes t t' then some true else some false) else some false) else some false) else some false) with
     | some b => some (V.bool (!b))
     | none => none) := by kernel_rfl
  show (BK.other .neq 31).run Tryd.prog (.agg [.int .i64 k, .int .i64 n, .int .i64 p, .str t]) (.agg [.int .i64 k', .int .i64 n', .int .i64 p', .str t']) = _
  rw [h]
  have hpp : ((p : Int) = (p' : Int)) = (p = p') := propext ⟨fun q => by omega, fun q => by omega⟩
  simp only [eqB_dec, beqBytes_dec, Wd.mk.injEq, hpp]
  by_cases h1 : k = k' <;> by_cases h2 : n = n' <;> by_cases h3 : p = p' <;> by_cases h4 : t = t' <;> simp [h1, h2, h3, h4]
theorem eql26 (a b a' b' : Int) : (BK.other .eql 26).run Tryd.prog (.agg [.int .i64 a, .int .i64 b]) (.agg [.int .i64 a', .int .i64 b']) = some (.bool (decide (a = a') && decide (b = b'))) := by
  have h : (BK.other .eql 26).run Tryd.prog (.agg [.int .i64 a, .int .i64 b]) (.agg [.int .i64 a', .int .i64 b']) =
   (match (bif Int.eqB a a' then (bif Int.eqB b b' then some true else some false) else some false) with
     | some b => some (V.bool b)
     | none => none) := by kernel_rfl
  rw [h]
  simp only [eqB_dec]
  by_cases h1 : a = a' <;> by_cases h2 : b = b' <;> simp [h1, h2]
theorem wdsV_at : ∀ (ws : List Wd) (i : Nat) (hi : i < ws.length), ((wdsV ws).drop (i * 4)).take 4 = ws[i].enc
  | w :: ws, 0, _ => by simp [wdsV, Wd.enc]
  | w :: ws, i + 1, hi => by
    have := wdsV_at ws i (by simpa using hi)
    rw [show (i + 1) * 4 = 4 + i * 4 from by omega]
    simp only [wdsV, List.getElem_cons_succ]
    rw [← List.drop_drop, show (w.enc ++ wdsV ws).drop 4 = wdsV ws from by simp [Wd.enc]]
    exact this

theorem same_pure (v1 v2 : V) (a b : List Wd) (h : Heap) (H1 : SlV h 4 v1 a.length (wdsV a)) (H2 : SlV h 4 v2 b.length (wdsV b)) (hl : a.length ≤ 100000) :
    CallsV Tryd.prog 12 [v1, v2] h (.bool (decide (a = b))) h := by
  refine pure_calls (c12_ctr rfl (wpK_of ?_))
  unfold c12
  simp +contextual only [H1.len, H2.len, ↓wA, wB, wZ, repeatV, RX.evs, spl, over, ones, Ex.ends, evR, oneOf, top, ↓reduceIte, Nat.reduceEqDiff, Nat.reduceLeDiff, Nat.reduceAdd, Nat.reduceSub, Nat.reduceMul, reduceCtorEq, Int.reduceEq, Int.reduceLT, Int.reduceLE, Int.reduceNeg, Int.reduceAdd, Int.reduceSub]
  by_cases hn : a.length = b.length
  · have hn' : ((a.length : Int) = (b.length : Int)) = True := eq_true (by omega)
    simp +contextual only [hn', ↓wA, wB, wZ, repeatV, RX.evs, spl, over, ones, Ex.ends, evR, oneOf, top, ↓reduceIte, Nat.reduceEqDiff, Nat.reduceLeDiff, Nat.reduceAdd, Nat.reduceSub, Nat.reduceMul, reduceCtorEq, Int.reduceEq, Int.reduceLT, Int.reduceLE, Int.reduceNeg, Int.reduceAdd, Int.reduceSub]
    refine loopK_intro (fun r h' => h' = h ∧ r 0 = v1 ∧ r 1 = v2 ∧ ∃ i : Nat, r 5 = .int .i64 i ∧ i ≤ a.length ∧ decide (a = b) = decide (a.drop i = b.drop i)) (fun r h' => a.length - (r 5).toN) ?_ ?_
    · exact ⟨rfl, by simp only [↓wA, wB, wZ, repeatV, RX.evs, spl, over, ones, Ex.ends, evR, oneOf, top, ↓reduceIte, Nat.reduceEqDiff, Nat.reduceLeDiff, Nat.reduceAdd, Nat.reduceSub, Nat.reduceMul, reduceCtorEq, Int.reduceEq, Int.reduceLT, Int.reduceLE, Int.reduceNeg, Int.reduceAdd, Int.reduceSub], by simp only [↓wA, wB, wZ, repeatV, RX.evs, spl, over, ones, Ex.ends, evR, oneOf, top, ↓reduceIte, Nat.reduceEqDiff, Nat.reduceLeDiff, Nat.reduceAdd, Nat.reduceSub, Nat.reduceMul, reduceCtorEq, Int.reduceEq, Int.reduceLT, Int.reduceLE, Int.reduceNeg, Int.reduceAdd, Int.reduceSub], 0, by simp only [↓wA, wB, wZ, repeatV, RX.evs, spl, over, ones, Ex.ends, evR, oneOf, top, ↓reduceIte, Nat.reduceEqDiff, Nat.reduceLeDiff, Nat.reduceAdd, Nat.reduceSub, Nat.reduceMul, reduceCtorEq, Int.reduceEq, Int.reduceLT, Int.reduceLE, Int.reduceNeg, Int.reduceAdd, Int.reduceSub]; rfl, by omega, rfl⟩
    · rintro r h' ⟨rfl, r0, r1, i, r5, hi, hok⟩
      unfold c12l1
      by_cases hlt : i < a.length
      · have g0 : ((i : Int) < (a.length : Int)) = True := eq_true (by omega)
        have hlt2 : i < b.length := by omega
        obtain ⟨b1, o1, ia1, at1⟩ := H1.ia (k := .i64) hlt
        obtain ⟨b2, o2, ia2, at2⟩ := H2.ia (k := .i64) hlt2
        have ld1 := at1.ldn (i := i * 4) (n := 4) (by rw [wdsV_len]; omega)
        have ld2 := at2.ldn (i := i * 4) (n := 4) (by rw [wdsV_len]; omega)
        rw [wdsV_at a i hlt] at ld1
        rw [wdsV_at b i hlt2] at ld2
        rw [List.drop_eq_getElem_cons hlt, List.drop_eq_getElem_cons hlt2] at hok
        by_cases he : a[i] = b[i]
        · have w : IntKind.i64.wrap ((i : Int) + 1) = ((i + 1 : Nat) : Int) := by rw [wrap_i64 (by omega) (by omega)]; rfl
          have he' : decide (a[i] = b[i]) = true := decide_eq_true he
          simp +contextual (maxSteps := 1000000) only [r0, r1, r5, g0, H1.len, H2.len, ia1, ia2, ld1, ld2, neq31, he', w, ↓wA, wB, wZ, repeatV, RX.evs, spl, over, ones, Ex.ends, evR, oneOf, top, ↓reduceIte, Nat.reduceEqDiff, Nat.reduceLeDiff, Nat.reduceAdd, Nat.reduceSub, Nat.reduceMul, reduceCtorEq, Int.reduceEq, Int.reduceLT, Int.reduceLE, Int.reduceNeg, Int.reduceAdd, Int.reduceSub]
          refine ⟨⟨i + 1, rfl, hlt, ?_⟩, by omega⟩
          rw [hok, he, Bool.eq_iff_iff, decide_eq_true_eq, decide_eq_true_eq, List.cons.injEq]
          exact ⟨fun q => q.2, fun q => ⟨rfl, q⟩⟩
        · have he' : decide (a[i] = b[i]) = false := decide_eq_false he
          simp +contextual (maxSteps := 1000000) only [r0, r1, r5, g0, H1.len, H2.len, ia1, ia2, ld1, ld2, neq31, he', ↓wA, wB, wZ, repeatV, RX.evs, spl, over, ones, Ex.ends, evR, oneOf, top, ↓reduceIte, Nat.reduceEqDiff, Nat.reduceLeDiff, Nat.reduceAdd, Nat.reduceSub, Nat.reduceMul, reduceCtorEq, Int.reduceEq, Int.reduceLT, Int.reduceLE, Int.reduceNeg, Int.reduceAdd, Int.reduceSub]
          rw [hok, eq_comm, decide_eq_false_iff_not]
          exact fun q => he (List.cons.inj q).1
      · have g0 : ((i : Int) < (a.length : Int)) = False := eq_false (by omega)
        rw [List.drop_eq_nil_of_le (by omega), List.drop_eq_nil_of_le (by omega)] at hok
        rw [hok]
        simp +contextual only [r0, r1, r5, g0, H1.len, H2.len, ↓wA, wB, wZ, repeatV, RX.evs, spl, over, ones, Ex.ends, evR, oneOf, top, ↓reduceIte, Nat.reduceEqDiff, Nat.reduceLeDiff, Nat.reduceAdd, Nat.reduceSub, Nat.reduceMul, reduceCtorEq, Int.reduceEq, Int.reduceLT, Int.reduceLE, Int.reduceNeg, Int.reduceAdd, Int.reduceSub]
  · have hn' : ((a.length : Int) = (b.length : Int)) = False := eq_false (by omega)
    simp +contextual only [hn', ↓wA, wB, wZ, repeatV, RX.evs, spl, over, ones, Ex.ends, evR, oneOf, top, ↓reduceIte, Nat.reduceEqDiff, Nat.reduceLeDiff, Nat.reduceAdd, Nat.reduceSub, Nat.reduceMul, reduceCtorEq, Int.reduceEq, Int.reduceLT, Int.reduceLE, Int.reduceNeg, Int.reduceAdd, Int.reduceSub]
    rw [eq_comm, decide_eq_false_iff_not]
    exact fun e => hn (congrArg List.length e)

theorem lexF_len : ∀ (f : Nat) (r : List UInt8) (p : Nat) (ws : List Wd), lexF f r p = .ok ws → ws.length ≤ f
  | 0, r, p, ws, h => by simp only [lexF, Except.ok.injEq] at h; subst h; simp
  | f + 1, [], p, ws, h => by simp only [lexF, Except.ok.injEq] at h; subst h; simp
  | f + 1, c :: r, p, ws, h => by
    simp only [lexF] at h
    split at h
    · have := lexF_len f _ _ _ h; omega
    · split at h
      · split at h
        · cases h
        · have := lexF_len f _ _ _ h; omega
      · split at h
        · cases h
        · rename_i q hq
          cases hr : lexF f ((c :: r).drop q.2.2.2) (p + q.2.2.2) with
          | error e => rw [hr] at h; cases h
          | ok w2 =>
            rw [hr] at h
            simp only [consOk, Except.ok.injEq] at h
            subst h
            have := lexF_len f _ _ _ hr
            simp only [List.length_cons]
            omega
theorem lexM_len {s : List UInt8} {ws : List Wd} (h : lexM s = .ok ws) : ws.length ≤ 65536 := by
  unfold lexM at h
  split at h
  · cases h
  · split at h
    · cases h
    · have := lexF_len _ _ _ _ h; omega

theorem nextM_err {c : UInt8} {r : List UInt8} {e : Int} (h : nextM (c :: r) = .error e) : e ≠ 0 := by
  have hname : ∀ {k : Int} {r : List UInt8} {e : Int}, nameM k r = .error e → e ≠ 0 := by
    intro k r e h
    unfold nameM at h
    simp only at h
    split at h
    · cases h
    · split at h
      · cases h
      · split at h
        · cases h; decide
        · cases h
  simp only [nextM] at h
  split at h
  · unfold numM at h
    simp only at h
    split at h
    · cases h; decide
    · cases h
  · split at h
    · unfold strM at h
      split at h
      · cases h; decide
      · split at h
        · cases h; decide
        · cases h
    · split at h
      · exact hname h
      · split at h
        · exact hname h
        · split at h
          · cases hn : nameM 5 r with
            | error e' => rw [hn] at h; cases h; exact hname hn
            | ok q' => rw [hn] at h; cases h
          · unfold signM at h
            split at h
            · cases h
            · cases h; decide
theorem lexF_err : ∀ (f : Nat) (r : List UInt8) (p : Nat) (e : Int × Nat), lexF f r p = .error e → e.1 ≠ 0
  | 0, r, p, e, h => by simp only [lexF] at h; cases h
  | f + 1, [], p, e, h => by simp only [lexF] at h; cases h
  | f + 1, c :: r, p, e, h => by
    simp only [lexF] at h
    split at h
    · exact lexF_err f _ _ _ h
    · split at h
      · split at h
        · cases h; show (253 : Int) ≠ 0; decide
        · exact lexF_err f _ _ _ h
      · split at h
        · rename_i e' he'
          cases h
          exact nextM_err he'
        · rename_i q hq
          cases hr : lexF f ((c :: r).drop q.2.2.2) (p + q.2.2.2) with
          | error e2 =>
            rw [hr] at h
            cases h
            exact lexF_err f _ _ _ hr
          | ok w2 => rw [hr] at h; cases h
theorem lexM_err {s : List UInt8} {e : Int × Nat} (h : lexM s = .error e) : e.1 ≠ 0 := by
  unfold lexM at h
  split at h
  · cases h; show (3 : Int) ≠ 0; decide
  · split at h
    · cases h; show (250 : Int) ≠ 0; decide
    · exact lexF_err _ _ _ _ h
/-- is a text read as these words? -/
def lexEq (s : List UInt8) (ws : List Wd) : Bool := match lexM s with
  | .ok w => decide (w = ws)
  | .error _ => false
/-- has, faulty: is a text read just so? -/
theorem has_ctr (s : List UInt8) (v : V) (ws : List Wd) (h : Heap) (H : SlV h 4 v ws.length (wdsV ws)) :
    Ctr Tryd.prog 20 [.str s, v] h fun x h' => x = .bool (lexEq s ws) ∧ Ext h h' := by
  refine c20_ctr rfl (wpK_of ?_)
  unfold c20
  simp +contextual only [↓wA, wB, wZ, repeatV, RX.evs, spl, over, ones, Ex.ends, evR, oneOf, top, ↓reduceIte, Nat.reduceEqDiff, Nat.reduceLeDiff, Nat.reduceAdd, Nat.reduceSub, Nat.reduceMul, reduceCtorEq, Int.reduceEq, Int.reduceLT, Int.reduceLE, Int.reduceNeg, Int.reduceAdd, Int.reduceSub]
  refine callK_intro (lex_ctr s h) ?_
  rintro x h1 ⟨hx, hl⟩
  cases hlm : lexM s with
  | ok w2 =>
    rw [hlm] at hl
    obtain ⟨v2, rfl, hS⟩ := hl
    have hx2 : Ext h1 ((h1.new (.ofL [.int .i64 0, .int .i64 0] 0 false)).set (pa h1.next) (.ofL [.int .i64 0, .int .i64 0] 0 false)) := ((Ext.refl h1).new _).set (Nat.le_refl _) _
    simp +contextual only [eql26, ↓wA, wB, wZ, repeatV, RX.evs, spl, over, ones, Ex.ends, evR, oneOf, top, ↓reduceIte, Nat.reduceEqDiff, Nat.reduceLeDiff, Nat.reduceAdd, Nat.reduceSub, Nat.reduceMul, reduceCtorEq, Int.reduceEq, Int.reduceLT, Int.reduceLE, Int.reduceNeg, Int.reduceAdd, Int.reduceSub]
    refine callK_pure (same_pure v2 v w2 ws _ (hS.v.ext hx2) (H.ext (hx.trans hx2)) (by have := lexM_len hlm; omega)) ?_
    simp +contextual only [↓wA, wB, wZ, repeatV, RX.evs, spl, over, ones, Ex.ends, evR, oneOf, top, ↓reduceIte, Nat.reduceEqDiff, Nat.reduceLeDiff, Nat.reduceAdd, Nat.reduceSub, Nat.reduceMul, reduceCtorEq, Int.reduceEq, Int.reduceLT, Int.reduceLE, Int.reduceNeg, Int.reduceAdd, Int.reduceSub]
    exact ⟨by unfold lexEq; rw [hlm], hx.trans hx2⟩
  | error e =>
    rw [hlm] at hl
    subst hl
    have hx2 : Ext h1 ((h1.new (.ofL [.int .i64 0, .int .i64 0] 0 false)).set (pa h1.next) (.ofL [.int .i64 e.1, .int .i64 e.2] 0 false)) := ((Ext.refl h1).new _).set (Nat.le_refl _) _
    have he : (e.1 = 0) = False := eq_false (lexM_err hlm)
    simp +contextual only [eql26, he, ↓wA, wB, wZ, repeatV, RX.evs, spl, over, ones, Ex.ends, evR, oneOf, top, ↓reduceIte, Nat.reduceEqDiff, Nat.reduceLeDiff, Nat.reduceAdd, Nat.reduceSub, Nat.reduceMul, reduceCtorEq, Int.reduceEq, Int.reduceLT, Int.reduceLE, Int.reduceNeg, Int.reduceAdd, Int.reduceSub]
    exact ⟨by unfold lexEq; rw [hlm], hx.trans hx2⟩

theorem faulty_ctr (s : List UInt8) (e p : Int) (h : Heap) :
    Ctr Tryd.prog 21 [.str s, .int .i64 e, .int .i64 p] h fun x h' => x = .bool (match lexM s with | .error q => decide (q.1 = e) && decide ((q.2 : Int) = p) | .ok ws => decide (ws = []) && (decide (0 = e) && decide (0 = p))) ∧ Ext h h' := by
  refine c21_ctr rfl (wpK_of ?_)
  unfold c21
  simp +contextual only [↓wA, wB, wZ, repeatV, RX.evs, spl, over, ones, Ex.ends, evR, oneOf, top, ↓reduceIte, Nat.reduceEqDiff, Nat.reduceLeDiff, Nat.reduceAdd, Nat.reduceSub, Nat.reduceMul, reduceCtorEq, Int.reduceEq, Int.reduceLT, Int.reduceLE, Int.reduceNeg, Int.reduceAdd, Int.reduceSub]
  refine callK_intro (lex_ctr s h) ?_
  rintro x h1 ⟨hx, hl⟩
  cases hlm : lexM s with
  | ok w2 =>
    rw [hlm] at hl
    obtain ⟨v2, rfl, hS⟩ := hl
    have hx2 : Ext h1 ((h1.new (.ofL [.int .i64 0, .int .i64 0] 0 false)).set (pa h1.next) (.ofL [.int .i64 0, .int .i64 0] 0 false)) := ((Ext.refl h1).new _).set (Nat.le_refl _) _
    by_cases hw : w2 = []
    · subst hw
      have z : ((([] : List Wd).length : Nat) : Int) = 0 := rfl
      simp +contextual only [eql26, (hS.v.ext hx2).len, z, ↓wA, wB, wZ, repeatV, RX.evs, spl, over, ones, Ex.ends, evR, oneOf, top, ↓reduceIte, Nat.reduceEqDiff, Nat.reduceLeDiff, Nat.reduceAdd, Nat.reduceSub, Nat.reduceMul, reduceCtorEq, Int.reduceEq, Int.reduceLT, Int.reduceLE, Int.reduceNeg, Int.reduceAdd, Int.reduceSub]
      exact ⟨by simp, hx.trans hx2⟩
    · have z : ((w2.length : Int) = 0) = False := eq_false (by intro q; exact hw (List.length_eq_zero_iff.1 (by omega)))
      simp +contextual only [eql26, (hS.v.ext hx2).len, z, ↓wA, wB, wZ, repeatV, RX.evs, spl, over, ones, Ex.ends, evR, oneOf, top, ↓reduceIte, Nat.reduceEqDiff, Nat.reduceLeDiff, Nat.reduceAdd, Nat.reduceSub, Nat.reduceMul, reduceCtorEq, Int.reduceEq, Int.reduceLT, Int.reduceLE, Int.reduceNeg, Int.reduceAdd, Int.reduceSub]
      exact ⟨by simp [hw], hx.trans hx2⟩
  | error e =>
    rw [hlm] at hl
    subst hl
    have hx2 : Ext h1 ((h1.new (.ofL [.int .i64 0, .int .i64 0] 0 false)).set (pa h1.next) (.ofL [.int .i64 e.1, .int .i64 e.2] 0 false)) := ((Ext.refl h1).new _).set (Nat.le_refl _) _
    simp +contextual only [eql26, ↓wA, wB, wZ, repeatV, RX.evs, spl, over, ones, Ex.ends, evR, oneOf, top, ↓reduceIte, Nat.reduceEqDiff, Nat.reduceLeDiff, Nat.reduceAdd, Nat.reduceSub, Nat.reduceMul, reduceCtorEq, Int.reduceEq, Int.reduceLT, Int.reduceLE, Int.reduceNeg, Int.reduceAdd, Int.reduceSub]
    exact hx.trans hx2

theorem awake1 : lexM [39, 97, 32, 45, 62, 32, 66] = .ok [⟨5, 0, 0, [97]⟩, ⟨7, 0, 3, [45, 62]⟩, ⟨4, 0, 6, [66]⟩] := by kernel_rfl
theorem awake2 : lexM [97, 32, 35, 32, 98] = .error (251, 2) := by kernel_rfl
theorem awake3 : lexEq [39, 97, 32, 45, 62, 32, 66] [⟨5, 0, 0, [97]⟩, ⟨7, 0, 3, [45, 62]⟩, ⟨4, 0, 6, [66]⟩] = true := by unfold lexEq; rw [awake1]; rfl
theorem awake_ctr (h : Heap) : Ctr Tryd.prog 9 [] h fun x h' => x = .bool true ∧ Ext h h' := by
  refine c9_ctr rfl (wpK_of ?_)
  unfold c9
  simp +contextual only [↓wA, wB, wZ, repeatV, RX.evs, spl, over, ones, Ex.ends, evR, oneOf, top, ↓reduceIte, Nat.reduceEqDiff, Nat.reduceLeDiff, Nat.reduceAdd, Nat.reduceSub, Nat.reduceMul, reduceCtorEq, Int.reduceEq, Int.reduceLT, Int.reduceLE, Int.reduceNeg, Int.reduceAdd, Int.reduceSub]
  have hx : Ext h (h.new (.ofL (wdsV [⟨5, 0, 0, [97]⟩, ⟨7, 0, 3, [45, 62]⟩, ⟨4, 0, 6, [66]⟩]) 0 false)) := (Ext.refl h).new _
  refine callK_intro (has_ctr _ _ [⟨5, 0, 0, [97]⟩, ⟨7, 0, 3, [45, 62]⟩, ⟨4, 0, 6, [66]⟩] _ ⟨rfl, rfl, old_lt (by rw [next_new]; omega), _, .inr ⟨0, false, by rw [get_new_self]⟩, by decide, rfl⟩) ?_
  rintro x h1 ⟨rfl, hx1⟩
  rw [awake3]
  simp +contextual only [↓wA, wB, wZ, repeatV, RX.evs, spl, over, ones, Ex.ends, evR, oneOf, top, ↓reduceIte, Nat.reduceEqDiff, Nat.reduceLeDiff, Nat.reduceAdd, Nat.reduceSub, Nat.reduceMul, reduceCtorEq, Int.reduceEq, Int.reduceLT, Int.reduceLE, Int.reduceNeg, Int.reduceAdd, Int.reduceSub]
  refine callK_intro (faulty_ctr _ _ _ _) ?_
  rintro x h2 ⟨rfl, hx2⟩
  rw [awake2]
  simp +contextual only [↓wA, wB, wZ, repeatV, RX.evs, spl, over, ones, Ex.ends, evR, oneOf, top, ↓reduceIte, Nat.reduceEqDiff, Nat.reduceLeDiff, Nat.reduceAdd, Nat.reduceSub, Nat.reduceMul, reduceCtorEq, Int.reduceEq, Int.reduceLT, Int.reduceLE, Int.reduceNeg, Int.reduceAdd, Int.reduceSub]
  exact ⟨by decide, (hx.trans hx1).trans hx2⟩
end Go.Proofs.YthcgccnbhdociaaDoor

namespace Go.Proofs.YthcgccnbhdociaaDoor
open Go Am
set_option linter.unusedSectionVars false
set_option linter.unusedSimpArgs false
set_option linter.unusedVariables false

/-- what Lex says of a text, in one: the error, its place, the words -/
def lexE (s : List UInt8) : Int × Int × List Wd := match lexM s with
  | .ok ws => (0, 0, ws)
  | .error e => (e.1, e.2, [])
theorem LexOut.view {s : List UInt8} {h h' : Heap} {x : V} (H : LexOut s h x h') : Ext h h' ∧ ∃ v, x = .tuple [v, .agg [.int .i64 (lexE s).1, .int .i64 (lexE s).2.1]] ∧ SlO h.next h' 4 v (lexE s).2.2.length (wdsV (lexE s).2.2) := by
  obtain ⟨h1, h2⟩ := H
  refine ⟨h1, ?_⟩
  unfold lexE
  cases hl : lexM s with
  | ok ws => rw [hl] at h2; exact h2
  | error e => rw [hl] at h2; exact ⟨.nilslice, h2, rfl, rfl⟩

end Go.Proofs.YthcgccnbhdociaaDoor

namespace Go.Proofs.YthcgccnbhdociaaDoor
open Go Am
set_option linter.unusedSectionVars false
set_option linter.unusedSimpArgs false
set_option linter.unusedVariables false

/-! How long: the plain law. -/
theorem ascii_right {s : List UInt8} (h : ∀ c ∈ s, c.toNat < 128) : rightM s = s.length := by
  have hc : ∀ a, a < s.length → cw s a = 1 := by
    intro a ha
    have hd : decodeL s a = ((s[a]).toNat, 1) := by
      unfold decodeL
      rw [Lib.decode_at]
      simp only [get_ba, List.getElem?_eq_getElem ha, Option.getD_some]
      unfold Lib.decodeN
      rw [if_pos (h _ (List.getElem_mem ha))]
    unfold cw
    rw [hd, if_neg (by
      have := h _ (List.getElem_mem ha)
      simp only [Prod.mk.injEq, and_true]
      omega)]
  have : ∀ n a, s.length - a = n → a ≤ s.length → rightA s a = s.length := by
    intro n
    induction n with
    | zero => intro a h1 h2; exact rightA_end (by omega)
    | succ n ih =>
      intro a h1 h2
      have hlt : a < s.length := by omega
      rw [rightA_step hlt (by rw [hc a hlt]; decide), hc a hlt]
      exact ih _ (by omega) (by omega)
  exact this s.length 0 (by omega) (by omega)
theorem lexM_ascii {s : List UInt8} (h : ∀ c ∈ s, c.toNat < 128) : lexM s = if 65536 < s.length then .error (3, 0) else lexR s 0 := by
  unfold lexM
  rw [ascii_right h, if_neg (Nat.lt_irrefl _)]
end Go.Proofs.YthcgccnbhdociaaDoor

namespace Go.Proofs.YthcgccnbhdociaaDoor
open Go Am
set_option linter.unusedSectionVars false
set_option linter.unusedSimpArgs false
set_option linter.unusedVariables false

/-! What Write makes of words, in plain Lean. -/
def headGreat : List UInt8 → Bool
  | d :: _ => greatB d.toNat
  | [] => false
def namedM (k : Int) (s : List UInt8) : Bool :=
  decide (s ≠ []) && decide (s.length ≤ 64) && s.all ltr && (if k = 3 then (headSmall s || s.head? == some 95) && !decide (s = [95]) && !keyB s else if k = 4 then headGreat s else headSmall s)
def mayM (k n : Int) (s : List UInt8) : Bool :=
  if k = 1 then decide (s = []) && decide (-1073741824 ≤ n) && decide (n ≤ 1073741823)
  else if k = 2 then decide (n = 0) && decide (s.length ≤ 4096)
  else if k = 3 ∨ k = 4 ∨ k = 5 then decide (n = 0) && namedM k s
  else if k = 6 then decide (n = 0) && keyB s
  else if k = 7 then decide (n = 0) && signList.contains s
  else false

/-! Bytes of a text, and of a list. -/
theorem conv_bytes (s : List UInt8) (h : Heap) (hs : s.length ≤ top) : convBytes.run (.str s) h = .val (.gslice (pa h.next) 0 s.length 0) (h.new (.ofL (bytesV s) 1 true)) := by
  simp only [convBytes, newGrow_eq (show (bytesV s).length ≤ top by rw [bytesV_len]; exact hs) (Nat.le_refl 1)]
theorem conv_sl (s : List UInt8) (h : Heap) : SlO h.next (h.new (.ofL (bytesV s) 1 true)) 1 (.gslice (pa h.next) 0 s.length 0) s.length (bytesV s) := SlO.grown (by rw [bytesV_len, Nat.mul_one]) (Nat.le_refl _)
theorem bytesV_get : ∀ (l : List UInt8) (i : Nat) (hi : i < l.length) (h2 : i < (bytesV l).length), (bytesV l)[i] = .int .u8 (l[i].toNat : Int)
  | c :: l, 0, _, _ => rfl
  | c :: l, i + 1, h1, h2 => by
    have := bytesV_get l i (by simpa using h1) (by rw [bytesV_len]; simpa using h1)
    simpa [bytesV] using this

theorem indexFunc_ctr (l : List UInt8) (v : V) (h : Heap) (H : SlV h 1 v l.length (bytesV l)) (hl : l.length ≤ 100000) (g : FuncId) (p : Int → Bool) (hp : ∀ c h, CallsV Tryd.prog g [.int .u8 c] h (.bool (p c)) h) :
    Ctr Tryd.prog 88 [v, .func g []] h fun x h' => h' = h ∧ ∃ i : Int, x = .int .i64 i ∧ decide (0 ≤ i) = l.any fun c => p c.toNat := by
  refine c88_ctr rfl (wpK_of ?_)
  unfold c88
  simp +contextual only [H.len, ↓wA, wB, wZ, repeatV, RX.evs, spl, over, ones, Ex.ends, evR, oneOf, top, ↓reduceIte, Nat.reduceEqDiff, Nat.reduceLeDiff, Nat.reduceAdd, Nat.reduceSub, Nat.reduceMul, reduceCtorEq, Int.reduceEq, Int.reduceLT, Int.reduceLE, Int.reduceNeg, Int.reduceAdd, Int.reduceSub]
  refine loopK_intro (fun r h' => h' = h ∧ r 0 = v ∧ r 1 = .func g [] ∧ r 7 = .int .i64 l.length ∧ ∃ i : Nat, r 8 = .int .i64 i ∧ i ≤ l.length ∧ (l.any fun c => p c.toNat) = ((l.drop i).any fun c => p c.toNat)) (fun r h' => l.length - (r 8).toN) ?_ ?_
  · exact ⟨rfl, by simp only [↓wA, wB, wZ, repeatV, RX.evs, spl, over, ones, Ex.ends, evR, oneOf, top, ↓reduceIte, Nat.reduceEqDiff, Nat.reduceLeDiff, Nat.reduceAdd, Nat.reduceSub, Nat.reduceMul, reduceCtorEq, Int.reduceEq, Int.reduceLT, Int.reduceLE, Int.reduceNeg, Int.reduceAdd, Int.reduceSub], by simp only [↓wA, wB, wZ, repeatV, RX.evs, spl, over, ones, Ex.ends, evR, oneOf, top, ↓reduceIte, Nat.reduceEqDiff, Nat.reduceLeDiff, Nat.reduceAdd, Nat.reduceSub, Nat.reduceMul, reduceCtorEq, Int.reduceEq, Int.reduceLT, Int.reduceLE, Int.reduceNeg, Int.reduceAdd, Int.reduceSub], by simp only [↓wA, wB, wZ, repeatV, RX.evs, spl, over, ones, Ex.ends, evR, oneOf, top, ↓reduceIte, Nat.reduceEqDiff, Nat.reduceLeDiff, Nat.reduceAdd, Nat.reduceSub, Nat.reduceMul, reduceCtorEq, Int.reduceEq, Int.reduceLT, Int.reduceLE, Int.reduceNeg, Int.reduceAdd, Int.reduceSub], 0, by simp only [↓wA, wB, wZ, repeatV, RX.evs, spl, over, ones, Ex.ends, evR, oneOf, top, ↓reduceIte, Nat.reduceEqDiff, Nat.reduceLeDiff, Nat.reduceAdd, Nat.reduceSub, Nat.reduceMul, reduceCtorEq, Int.reduceEq, Int.reduceLT, Int.reduceLE, Int.reduceNeg, Int.reduceAdd, Int.reduceSub]; rfl, by omega, rfl⟩
  · rintro r h' ⟨rfl, r0, r1, r7, i, r8, hi, hok⟩
    unfold c88l1
    by_cases hlt : i < l.length
    · have g0 : ((i : Int) < (l.length : Int)) = True := eq_true (by omega)
      obtain ⟨b1, o1, ia1, at1⟩ := H.ia (k := .i64) hlt
      have ld1 := at1.ld1 (i := i * 1) (by rw [bytesV_len]; omega)
      simp only [Nat.mul_one] at ld1 ia1
      rw [bytesV_get l i hlt] at ld1
      rw [List.drop_eq_getElem_cons hlt, List.any_cons] at hok
      have w : IntKind.i64.wrap ((i : Int) + 1) = ((i + 1 : Nat) : Int) := by rw [wrap_i64 (by omega) (by omega)]; rfl
      simp +contextual only [r0, r1, r7, r8, g0, ia1, ld1, ↓wA, wB, wZ, repeatV, RX.evs, spl, over, ones, Ex.ends, evR, oneOf, top, ↓reduceIte, Nat.reduceEqDiff, Nat.reduceLeDiff, Nat.reduceAdd, Nat.reduceSub, Nat.reduceMul, reduceCtorEq, Int.reduceEq, Int.reduceLT, Int.reduceLE, Int.reduceNeg, Int.reduceAdd, Int.reduceSub]
      refine callK_pure (hp _ _) ?_
      cases hpc : p ((l[i]).toNat : Int) with
      | true =>
        simp +contextual only [r0, r1, r7, r8, ↓wA, wB, wZ, repeatV, RX.evs, spl, over, ones, Ex.ends, evR, oneOf, top, ↓reduceIte, Nat.reduceEqDiff, Nat.reduceLeDiff, Nat.reduceAdd, Nat.reduceSub, Nat.reduceMul, reduceCtorEq, Int.reduceEq, Int.reduceLT, Int.reduceLE, Int.reduceNeg, Int.reduceAdd, Int.reduceSub]
        exact ⟨i, rfl, by rw [hok, hpc]; simp⟩
      | false =>
        simp +contextual only [r0, r1, r7, r8, w, ↓wA, wB, wZ, repeatV, RX.evs, spl, over, ones, Ex.ends, evR, oneOf, top, ↓reduceIte, Nat.reduceEqDiff, Nat.reduceLeDiff, Nat.reduceAdd, Nat.reduceSub, Nat.reduceMul, reduceCtorEq, Int.reduceEq, Int.reduceLT, Int.reduceLE, Int.reduceNeg, Int.reduceAdd, Int.reduceSub]
        exact ⟨⟨i + 1, rfl, hlt, by rw [hok, hpc, Bool.false_or]⟩, by omega⟩
    · have g0 : ((i : Int) < (l.length : Int)) = False := eq_false (by omega)
      rw [List.drop_eq_nil_of_le (by omega)] at hok
      simp +contextual only [r0, r1, r7, r8, g0, ↓wA, wB, wZ, repeatV, RX.evs, spl, over, ones, Ex.ends, evR, oneOf, top, ↓reduceIte, Nat.reduceEqDiff, Nat.reduceLeDiff, Nat.reduceAdd, Nat.reduceSub, Nat.reduceMul, reduceCtorEq, Int.reduceEq, Int.reduceLT, Int.reduceLE, Int.reduceNeg, Int.reduceAdd, Int.reduceSub]
      exact ⟨_, rfl, by rw [hok]; rfl⟩

theorem containsFunc_pure (l : List UInt8) (v : V) (h : Heap) (H : SlV h 1 v l.length (bytesV l)) (hl : l.length ≤ 100000) (g : FuncId) (p : Int → Bool) (hp : ∀ c h, CallsV Tryd.prog g [.int .u8 c] h (.bool (p c)) h) :
    CallsV Tryd.prog 78 [v, .func g []] h (.bool (l.any fun c => p c.toNat)) h := by
  refine pure_calls (c78_ctr rfl (wpK_of ?_))
  unfold c78
  simp +contextual only [↓wA, wB, wZ, repeatV, RX.evs, spl, over, ones, Ex.ends, evR, oneOf, top, ↓reduceIte, Nat.reduceEqDiff, Nat.reduceLeDiff, Nat.reduceAdd, Nat.reduceSub, Nat.reduceMul, reduceCtorEq, Int.reduceEq, Int.reduceLT, Int.reduceLE, Int.reduceNeg, Int.reduceAdd, Int.reduceSub]
  refine callK_intro (indexFunc_ctr l v h H hl g p hp) ?_
  rintro x h1 ⟨rfl, i, rfl, hi⟩
  simp +contextual only [hi, ↓wA, wB, wZ, repeatV, RX.evs, spl, over, ones, Ex.ends, evR, oneOf, top, ↓reduceIte, Nat.reduceEqDiff, Nat.reduceLeDiff, Nat.reduceAdd, Nat.reduceSub, Nat.reduceMul, reduceCtorEq, Int.reduceEq, Int.reduceLT, Int.reduceLE, Int.reduceNeg, Int.reduceAdd, Int.reduceSub]

theorem notLetter_pure (c : Int) (h : Heap) : CallsV Tryd.prog 79 [.int .u8 c] h (.bool (!letterB c)) h := by
  refine pure_calls (c79_ctr rfl (wpK_of ?_))
  unfold c79
  simp +contextual only [↓wA, wB, wZ, repeatV, RX.evs, spl, over, ones, Ex.ends, evR, oneOf, top, ↓reduceIte, Nat.reduceEqDiff, Nat.reduceLeDiff, Nat.reduceAdd, Nat.reduceSub, Nat.reduceMul, reduceCtorEq, Int.reduceEq, Int.reduceLT, Int.reduceLE, Int.reduceNeg, Int.reduceAdd, Int.reduceSub]
  refine callK_pure (letter_pure _ _) ?_
  simp +contextual only [↓wA, wB, wZ, repeatV, RX.evs, spl, over, ones, Ex.ends, evR, oneOf, top, ↓reduceIte, Nat.reduceEqDiff, Nat.reduceLeDiff, Nat.reduceAdd, Nat.reduceSub, Nat.reduceMul, reduceCtorEq, Int.reduceEq, Int.reduceLT, Int.reduceLE, Int.reduceNeg, Int.reduceAdd, Int.reduceSub]

theorem index81_ctr (t : List UInt8) (L : List (List UInt8)) (v : V) (h : Heap) (H : SlV h 1 v L.length (strsV L)) (hL : L.length ≤ 100000) :
    Ctr Tryd.prog 81 [v, .str t] h fun x h' => h' = h ∧ ∃ i : Int, x = .int .i64 i ∧ decide (0 ≤ i) = L.contains t := by
  refine c81_ctr rfl (wpK_of ?_)
  unfold c81
  simp +contextual only [H.len, ↓wA, wB, wZ, repeatV, RX.evs, spl, over, ones, Ex.ends, evR, oneOf, top, ↓reduceIte, Nat.reduceEqDiff, Nat.reduceLeDiff, Nat.reduceAdd, Nat.reduceSub, Nat.reduceMul, reduceCtorEq, Int.reduceEq, Int.reduceLT, Int.reduceLE, Int.reduceNeg, Int.reduceAdd, Int.reduceSub]
  refine loopK_intro (fun r h' => h' = h ∧ r 0 = v ∧ r 1 = .str t ∧ r 7 = .int .i64 L.length ∧ ∃ i : Nat, r 8 = .int .i64 i ∧ i ≤ L.length ∧ L.contains t = (L.drop i).contains t) (fun r h' => L.length - (r 8).toN) ?_ ?_
  · exact ⟨rfl, by simp only [↓wA, wB, wZ, repeatV, RX.evs, spl, over, ones, Ex.ends, evR, oneOf, top, ↓reduceIte, Nat.reduceEqDiff, Nat.reduceLeDiff, Nat.reduceAdd, Nat.reduceSub, Nat.reduceMul, reduceCtorEq, Int.reduceEq, Int.reduceLT, Int.reduceLE, Int.reduceNeg, Int.reduceAdd, Int.reduceSub], by simp only [↓wA, wB, wZ, repeatV, RX.evs, spl, over, ones, Ex.ends, evR, oneOf, top, ↓reduceIte, Nat.reduceEqDiff, Nat.reduceLeDiff, Nat.reduceAdd, Nat.reduceSub, Nat.reduceMul, reduceCtorEq, Int.reduceEq, Int.reduceLT, Int.reduceLE, Int.reduceNeg, Int.reduceAdd, Int.reduceSub], by simp only [↓wA, wB, wZ, repeatV, RX.evs, spl, over, ones, Ex.ends, evR, oneOf, top, ↓reduceIte, Nat.reduceEqDiff, Nat.reduceLeDiff, Nat.reduceAdd, Nat.reduceSub, Nat.reduceMul, reduceCtorEq, Int.reduceEq, Int.reduceLT, Int.reduceLE, Int.reduceNeg, Int.reduceAdd, Int.reduceSub], 0, by simp only [↓wA, wB, wZ, repeatV, RX.evs, spl, over, ones, Ex.ends, evR, oneOf, top, ↓reduceIte, Nat.reduceEqDiff, Nat.reduceLeDiff, Nat.reduceAdd, Nat.reduceSub, Nat.reduceMul, reduceCtorEq, Int.reduceEq, Int.reduceLT, Int.reduceLE, Int.reduceNeg, Int.reduceAdd, Int.reduceSub]; rfl, by omega, rfl⟩
  · rintro r h' ⟨rfl, r0, r1, r7, i, r8, hi, hok⟩
    unfold c81l1
    by_cases hlt : i < L.length
    · have g0 : ((i : Int) < (L.length : Int)) = True := eq_true (by omega)
      obtain ⟨b1, o1, ia1, at1⟩ := H.ia (k := .i64) hlt
      have ld1 := at1.ld1 (i := i * 1) (by rw [strsV_len]; omega)
      simp only [Nat.mul_one] at ld1 ia1
      have hget : (strsV L)[i]'(by rw [strsV_len]; exact hlt) = .str L[i] := by
        have := strsV_get hlt
        rw [List.getElem?_eq_getElem (by rw [strsV_len]; exact hlt)] at this
        exact Option.some.inj this
      rw [hget] at ld1
      rw [drop_contains hlt] at hok
      have w : IntKind.i64.wrap ((i : Int) + 1) = ((i + 1 : Nat) : Int) := by rw [wrap_i64 (by omega) (by omega)]; rfl
      by_cases he : t = L[i]
      · have he' : decide (t = L[i]) = true := decide_eq_true he
        simp +contextual only [r0, r1, r7, r8, g0, ia1, ld1, he', ↓wA, wB, wZ, repeatV, RX.evs, spl, over, ones, Ex.ends, evR, oneOf, top, ↓reduceIte, Nat.reduceEqDiff, Nat.reduceLeDiff, Nat.reduceAdd, Nat.reduceSub, Nat.reduceMul, reduceCtorEq, Int.reduceEq, Int.reduceLT, Int.reduceLE, Int.reduceNeg, Int.reduceAdd, Int.reduceSub]
        exact ⟨i, rfl, by rw [hok, ← he]; simp⟩
      · have he' : decide (t = L[i]) = false := decide_eq_false he
        simp +contextual only [r0, r1, r7, r8, g0, ia1, ld1, he', w, ↓wA, wB, wZ, repeatV, RX.evs, spl, over, ones, Ex.ends, evR, oneOf, top, ↓reduceIte, Nat.reduceEqDiff, Nat.reduceLeDiff, Nat.reduceAdd, Nat.reduceSub, Nat.reduceMul, reduceCtorEq, Int.reduceEq, Int.reduceLT, Int.reduceLE, Int.reduceNeg, Int.reduceAdd, Int.reduceSub]
        refine ⟨⟨i + 1, rfl, hlt, ?_⟩, by omega⟩
        rw [hok, decide_eq_false (fun q => he q.symm), Bool.false_or]
    · have g0 : ((i : Int) < (L.length : Int)) = False := eq_false (by omega)
      rw [List.drop_eq_nil_of_le (by omega)] at hok
      simp +contextual only [r0, r1, r7, r8, g0, ↓wA, wB, wZ, repeatV, RX.evs, spl, over, ones, Ex.ends, evR, oneOf, top, ↓reduceIte, Nat.reduceEqDiff, Nat.reduceLeDiff, Nat.reduceAdd, Nat.reduceSub, Nat.reduceMul, reduceCtorEq, Int.reduceEq, Int.reduceLT, Int.reduceLE, Int.reduceNeg, Int.reduceAdd, Int.reduceSub]
      exact ⟨_, rfl, by rw [hok]; rfl⟩
theorem contains64_pure (t : List UInt8) (L : List (List UInt8)) (v : V) (h : Heap) (H : SlV h 1 v L.length (strsV L)) (hL : L.length ≤ 100000) :
    CallsV Tryd.prog 64 [v, .str t] h (.bool (L.contains t)) h := by
  refine pure_calls (c64_ctr rfl (wpK_of ?_))
  unfold c64
  simp +contextual only [↓wA, wB, wZ, repeatV, RX.evs, spl, over, ones, Ex.ends, evR, oneOf, top, ↓reduceIte, Nat.reduceEqDiff, Nat.reduceLeDiff, Nat.reduceAdd, Nat.reduceSub, Nat.reduceMul, reduceCtorEq, Int.reduceEq, Int.reduceLT, Int.reduceLE, Int.reduceNeg, Int.reduceAdd, Int.reduceSub]
  refine callK_intro (index81_ctr t L v h H hL) ?_
  rintro x h1 ⟨rfl, i, rfl, hi⟩
  simp +contextual only [hi, ↓wA, wB, wZ, repeatV, RX.evs, spl, over, ones, Ex.ends, evR, oneOf, top, ↓reduceIte, Nat.reduceEqDiff, Nat.reduceLeDiff, Nat.reduceAdd, Nat.reduceSub, Nat.reduceMul, reduceCtorEq, Int.reduceEq, Int.reduceLT, Int.reduceLE, Int.reduceNeg, Int.reduceAdd, Int.reduceSub]
end Go.Proofs.YthcgccnbhdociaaDoor

namespace Go.Proofs.YthcgccnbhdociaaDoor
open Go Am
set_option linter.unusedSectionVars false
set_option linter.unusedSimpArgs false
set_option linter.unusedVariables false

theorem any_not (s : List UInt8) : (s.any fun c => !letterB c.toNat) = !(s.all ltr) := by
  induction s with
  | nil => rfl
  | cons c s ih => rw [List.any_cons, List.all_cons, ih, Bool.not_and]; rfl
theorem all_no32 {s : List UInt8} (h : s.all ltr = true) : (32 : UInt8) ∉ s := fun q => by
  have := List.all_eq_true.1 h _ q
  revert this
  decide
theorem named_ctr (k : Int) (s : List UInt8) (hs : s.length ≤ 100000) (h : Heap) : Ctr Tryd.prog 62 [.int .i64 k, .str s] h fun x h' => x = .bool (namedM k s) ∧ Ext h h' := by
  refine c62_ctr rfl (wpK_of ?_)
  unfold c62
  by_cases hnil : s = []
  · subst hnil
    simp +contextual only [↓wA, wB, wZ, repeatV, RX.evs, spl, over, ones, Ex.ends, evR, oneOf, top, ↓reduceIte, Nat.reduceEqDiff, Nat.reduceLeDiff, Nat.reduceAdd, Nat.reduceSub, Nat.reduceMul, reduceCtorEq, Int.reduceEq, Int.reduceLT, Int.reduceLE, Int.reduceNeg, Int.reduceAdd, Int.reduceSub]
    exact ⟨rfl, Ext.refl _⟩
  obtain ⟨c, r, hsc⟩ := List.exists_cons_of_ne_nil hnil
  have e0 : (s = ([] : List UInt8)) = False := eq_false hnil
  have hs0 : s[0]? = some c := by rw [hsc]; rfl
  by_cases hlen : (64 : Int) < (s.length : Int)
  · have hn : namedM k s = false := by
      unfold namedM
      rw [decide_eq_false (show ¬ s.length ≤ 64 by omega)]
      simp
    have hlen' := eq_true hlen
    simp +contextual only [e0, hlen', hn, ↓wA, wB, wZ, repeatV, RX.evs, spl, over, ones, Ex.ends, evR, oneOf, top, ↓reduceIte, Nat.reduceEqDiff, Nat.reduceLeDiff, Nat.reduceAdd, Nat.reduceSub, Nat.reduceMul, reduceCtorEq, Int.reduceEq, Int.reduceLT, Int.reduceLE, Int.reduceNeg, Int.reduceAdd, Int.reduceSub]
    exact Ext.refl _
  have hlen' := eq_false hlen
  have htop : s.length ≤ top := by unfold top; omega
  simp +contextual only [e0, hlen', conv_bytes s h htop, ↓wA, wB, wZ, repeatV, RX.evs, spl, over, ones, Ex.ends, evR, oneOf, top, ↓reduceIte, Nat.reduceEqDiff, Nat.reduceLeDiff, Nat.reduceAdd, Nat.reduceSub, Nat.reduceMul, reduceCtorEq, Int.reduceEq, Int.reduceLT, Int.reduceLE, Int.reduceNeg, Int.reduceAdd, Int.reduceSub]
  have hx : Ext h (h.new (.ofL (bytesV s) 1 true)) := (Ext.refl h).new _
  have hS := (conv_sl s h).v
  generalize h.new (.ofL (bytesV s) 1 true) = h1 at *
  refine callK_pure (containsFunc_pure s _ h1 hS hs 79 _ notLetter_pure) ?_
  rw [any_not]
  cases hall : s.all ltr with
  | false =>
    have hn : namedM k s = false := by
      unfold namedM
      rw [hall]
      simp
    simp +contextual only [hn, ↓wA, wB, wZ, repeatV, RX.evs, spl, over, ones, Ex.ends, evR, oneOf, top, ↓reduceIte, Nat.reduceEqDiff, Nat.reduceLeDiff, Nat.reduceAdd, Nat.reduceSub, Nat.reduceMul, reduceCtorEq, Int.reduceEq, Int.reduceLT, Int.reduceLE, Int.reduceNeg, Int.reduceAdd, Int.reduceSub]
    exact hx
  | true =>
    have f1 : ((0 : Int) < (s.length : Int)) = True := eq_true (by rw [hsc]; simp only [List.length_cons]; omega)
    have hn : namedM k s = (if k = 3 then (headSmall s || s.head? == some 95) && !decide (s = [95]) && !keyB s else if k = 4 then headGreat s else headSmall s) := by
      unfold namedM
      rw [hall, decide_eq_true (show s.length ≤ 64 by omega), decide_eq_true (show s ≠ [] from hnil)]
      simp
    rw [hn]
    by_cases h3 : k = 3
    · have k3 : (k = 3) = True := eq_true h3
      have hu : ((c.toNat : Int) = 95) = (c = 95) := u8_eq c 95 (by omega)
      have hb : (headSmall s || s.head? == some 95) = (smallB c.toNat || decide (c = 95)) := by
        rw [hsc]
        show (smallB c.toNat || (some c == some 95)) = _
        congr 1
      rw [hb]
      have hlt1 : (1 + s.length ≤ 17179869184) = True := eq_true (by omega)
      have hlt2 : (s.length + 1 + 1 ≤ 17179869184) = True := eq_true (by omega)
      have hlt3 : (s.length + 2 ≤ 17179869184) = True := eq_true (by omega)
      simp +contextual only [k3, f1, hs0, Int.toNat_zero, if_true, ↓wA, wB, wZ, repeatV, RX.evs, spl, over, ones, Ex.ends, evR, oneOf, top, ↓reduceIte, Nat.reduceEqDiff, Nat.reduceLeDiff, Nat.reduceAdd, Nat.reduceSub, Nat.reduceMul, reduceCtorEq, Int.reduceEq, Int.reduceLT, Int.reduceLE, Int.reduceNeg, Int.reduceAdd, Int.reduceSub]
      refine callK_pure (small_pure _ _) ?_
      cases hsm : smallB (c.toNat : Int) with
      | false =>
        by_cases h95c : c = 95
        · have h95 := eq_true h95c
          by_cases h1 : s = [95]
          · have h1' := eq_true h1
            simp +contextual only [hsm, hu, h95, h1', f1, hs0, Int.toNat_zero, ↓wA, wB, wZ, repeatV, RX.evs, spl, over, ones, Ex.ends, evR, oneOf, top, ↓reduceIte, Nat.reduceEqDiff, Nat.reduceLeDiff, Nat.reduceAdd, Nat.reduceSub, Nat.reduceMul, reduceCtorEq, Int.reduceEq, Int.reduceLT, Int.reduceLE, Int.reduceNeg, Int.reduceAdd, Int.reduceSub]
            exact hx
          · have h1' := eq_false h1
            simp +contextual only [hsm, hu, h95, h1', f1, hs0, hlt1, hlt2, hlt3, List.cons_append, List.nil_append, Int.toNat_zero, ↓wA, wB, wZ, repeatV, RX.evs, spl, over, ones, Ex.ends, evR, oneOf, top, ↓reduceIte, Nat.reduceEqDiff, Nat.reduceLeDiff, Nat.reduceAdd, Nat.reduceSub, Nat.reduceMul, reduceCtorEq, Int.reduceEq, Int.reduceLT, Int.reduceLE, Int.reduceNeg, Int.reduceAdd, Int.reduceSub]
            refine callK_pure (contains_calls keysText (32 :: (s ++ [32])) (by decide) _) ?_
            rw [contains_key s (all_no32 hall)]
            simp +contextual only [hsm, hu, h95, h1', ↓wA, wB, wZ, repeatV, RX.evs, spl, over, ones, Ex.ends, evR, oneOf, top, ↓reduceIte, Nat.reduceEqDiff, Nat.reduceLeDiff, Nat.reduceAdd, Nat.reduceSub, Nat.reduceMul, reduceCtorEq, Int.reduceEq, Int.reduceLT, Int.reduceLE, Int.reduceNeg, Int.reduceAdd, Int.reduceSub]
            exact hx
        · have h95 := eq_false h95c
          simp +contextual only [hsm, hu, h95, f1, hs0, Int.toNat_zero, ↓wA, wB, wZ, repeatV, RX.evs, spl, over, ones, Ex.ends, evR, oneOf, top, ↓reduceIte, Nat.reduceEqDiff, Nat.reduceLeDiff, Nat.reduceAdd, Nat.reduceSub, Nat.reduceMul, reduceCtorEq, Int.reduceEq, Int.reduceLT, Int.reduceLE, Int.reduceNeg, Int.reduceAdd, Int.reduceSub]
          exact hx
      | true =>
        have h95 : True = True := rfl
        by_cases h1 : s = [95]
        · have h1' := eq_true h1
          simp +contextual only [hsm, hu, h95, h1', f1, hs0, Int.toNat_zero, ↓wA, wB, wZ, repeatV, RX.evs, spl, over, ones, Ex.ends, evR, oneOf, top, ↓reduceIte, Nat.reduceEqDiff, Nat.reduceLeDiff, Nat.reduceAdd, Nat.reduceSub, Nat.reduceMul, reduceCtorEq, Int.reduceEq, Int.reduceLT, Int.reduceLE, Int.reduceNeg, Int.reduceAdd, Int.reduceSub]
          exact hx
        · have h1' := eq_false h1
          simp +contextual only [hsm, hu, h95, h1', f1, hs0, hlt1, hlt2, hlt3, List.cons_append, List.nil_append, Int.toNat_zero, ↓wA, wB, wZ, repeatV, RX.evs, spl, over, ones, Ex.ends, evR, oneOf, top, ↓reduceIte, Nat.reduceEqDiff, Nat.reduceLeDiff, Nat.reduceAdd, Nat.reduceSub, Nat.reduceMul, reduceCtorEq, Int.reduceEq, Int.reduceLT, Int.reduceLE, Int.reduceNeg, Int.reduceAdd, Int.reduceSub]
          refine callK_pure (contains_calls keysText (32 :: (s ++ [32])) (by decide) _) ?_
          rw [contains_key s (all_no32 hall)]
          simp +contextual only [hsm, hu, h95, h1', ↓wA, wB, wZ, repeatV, RX.evs, spl, over, ones, Ex.ends, evR, oneOf, top, ↓reduceIte, Nat.reduceEqDiff, Nat.reduceLeDiff, Nat.reduceAdd, Nat.reduceSub, Nat.reduceMul, reduceCtorEq, Int.reduceEq, Int.reduceLT, Int.reduceLE, Int.reduceNeg, Int.reduceAdd, Int.reduceSub]
          exact hx
    · have k3 : (k = 3) = False := eq_false h3
      by_cases h4 : k = 4
      · have k4 : (k = 4) = True := eq_true h4
        simp +contextual only [k3, k4, f1, hs0, Int.toNat_zero, if_true, if_false, ↓wA, wB, wZ, repeatV, RX.evs, spl, over, ones, Ex.ends, evR, oneOf, top, ↓reduceIte, Nat.reduceEqDiff, Nat.reduceLeDiff, Nat.reduceAdd, Nat.reduceSub, Nat.reduceMul, reduceCtorEq, Int.reduceEq, Int.reduceLT, Int.reduceLE, Int.reduceNeg, Int.reduceAdd, Int.reduceSub]
        refine callK_pure (great_pure _ _) ?_
        simp +contextual only [↓wA, wB, wZ, repeatV, RX.evs, spl, over, ones, Ex.ends, evR, oneOf, top, ↓reduceIte, Nat.reduceEqDiff, Nat.reduceLeDiff, Nat.reduceAdd, Nat.reduceSub, Nat.reduceMul, reduceCtorEq, Int.reduceEq, Int.reduceLT, Int.reduceLE, Int.reduceNeg, Int.reduceAdd, Int.reduceSub]
        exact ⟨by rw [hsc]; rfl, hx⟩
      · have k4 : (k = 4) = False := eq_false h4
        simp +contextual only [k3, k4, f1, hs0, Int.toNat_zero, if_true, if_false, ↓wA, wB, wZ, repeatV, RX.evs, spl, over, ones, Ex.ends, evR, oneOf, top, ↓reduceIte, Nat.reduceEqDiff, Nat.reduceLeDiff, Nat.reduceAdd, Nat.reduceSub, Nat.reduceMul, reduceCtorEq, Int.reduceEq, Int.reduceLT, Int.reduceLE, Int.reduceNeg, Int.reduceAdd, Int.reduceSub]
        refine callK_pure (small_pure _ _) ?_
        simp +contextual only [↓wA, wB, wZ, repeatV, RX.evs, spl, over, ones, Ex.ends, evR, oneOf, top, ↓reduceIte, Nat.reduceEqDiff, Nat.reduceLeDiff, Nat.reduceAdd, Nat.reduceSub, Nat.reduceMul, reduceCtorEq, Int.reduceEq, Int.reduceLT, Int.reduceLE, Int.reduceNeg, Int.reduceAdd, Int.reduceSub]
        exact ⟨by rw [hsc]; rfl, hx⟩
end Go.Proofs.YthcgccnbhdociaaDoor

namespace Go.Proofs.YthcgccnbhdociaaDoor
open Go Am
set_option linter.unusedSectionVars false
set_option linter.unusedSimpArgs false
set_option linter.unusedVariables false

theorem index_one (c : UInt8) : ∀ s : List UInt8, (0 ≤ Lib.index s [c]) ↔ c ∈ s
  | [] => by simp [Lib.index]
  | d :: s => by
    rw [index_cons, index_one c s, List.mem_cons]
    simp [List.isPrefixOf]
theorem contains_one (c : UInt8) (s : List UInt8) : Lib.contains s [c] = decide (c ∈ s) := by
  unfold Lib.contains
  rw [Bool.eq_iff_iff, decide_eq_true_eq, decide_eq_true_eq]
  exact index_one c s
theorem key_no32 {t : List UInt8} (h : keyB t = true) : (32 : UInt8) ∉ t := by
  have hm : t ∈ keyList := by unfold keyB at h; simpa using h
  exact (show ∀ t ∈ keyList, (32 : UInt8) ∉ t by decide) t hm
theorem mayM1 (n : Int) (s : List UInt8) : mayM 1 n s = (decide (s = []) && decide (-1073741824 ≤ n) && decide (n ≤ 1073741823)) := rfl
theorem mayM2 (n : Int) (s : List UInt8) : mayM 2 n s = (decide (n = 0) && decide (s.length ≤ 4096)) := rfl
theorem mayM3 (n : Int) (s : List UInt8) : mayM 3 n s = (decide (n = 0) && namedM 3 s) := rfl
theorem mayM4 (n : Int) (s : List UInt8) : mayM 4 n s = (decide (n = 0) && namedM 4 s) := rfl
theorem mayM5 (n : Int) (s : List UInt8) : mayM 5 n s = (decide (n = 0) && namedM 5 s) := rfl
theorem mayM6 (n : Int) (s : List UInt8) : mayM 6 n s = (decide (n = 0) && keyB s) := rfl
theorem mayM7 (n : Int) (s : List UInt8) : mayM 7 n s = (decide (n = 0) && signList.contains s) := rfl

theorem may_ctr (k n p : Int) (s : List UInt8) (hs : s.length ≤ 90000) (h : Heap) : Ctr Tryd.prog 36 [.agg [.int .i64 k, .int .i64 n, .int .i64 p, .str s]] h fun x h' => x = .bool (mayM k n s) ∧ Ext h h' := by
  refine c36_ctr rfl (wpK_of ?_)
  unfold c36
  have hx : Ext h (h.new (.ofL [.int .i64 k, .int .i64 n, .int .i64 p, .str s] 0 false)) := (Ext.refl h).new _
  by_cases h1 : k = 1
  · subst h1
    rw [mayM1]
    by_cases e1 : s = []
    · have e1' := eq_true e1
      by_cases e2 : -1073741824 ≤ n
      · have e2' := eq_true e2
        simp +contextual only [e1', e2', ↓wA, wB, wZ, repeatV, RX.evs, spl, over, ones, Ex.ends, evR, oneOf, top, ↓reduceIte, Nat.reduceEqDiff, Nat.reduceLeDiff, Nat.reduceAdd, Nat.reduceSub, Nat.reduceMul, reduceCtorEq, Int.reduceEq, Int.reduceLT, Int.reduceLE, Int.reduceNeg, Int.reduceAdd, Int.reduceSub]
        exact hx
      · have e2' := eq_false e2
        simp +contextual only [e1', e2', ↓wA, wB, wZ, repeatV, RX.evs, spl, over, ones, Ex.ends, evR, oneOf, top, ↓reduceIte, Nat.reduceEqDiff, Nat.reduceLeDiff, Nat.reduceAdd, Nat.reduceSub, Nat.reduceMul, reduceCtorEq, Int.reduceEq, Int.reduceLT, Int.reduceLE, Int.reduceNeg, Int.reduceAdd, Int.reduceSub]
        exact hx
    · have e1' := eq_false e1
      simp +contextual only [e1', ↓wA, wB, wZ, repeatV, RX.evs, spl, over, ones, Ex.ends, evR, oneOf, top, ↓reduceIte, Nat.reduceEqDiff, Nat.reduceLeDiff, Nat.reduceAdd, Nat.reduceSub, Nat.reduceMul, reduceCtorEq, Int.reduceEq, Int.reduceLT, Int.reduceLE, Int.reduceNeg, Int.reduceAdd, Int.reduceSub]
      exact hx
  by_cases h2 : k = 2
  · subst h2
    rw [mayM2]
    have hl : ((s.length : Int) ≤ 4096) = (s.length ≤ 4096) := propext ⟨fun q => by omega, fun q => by omega⟩
    by_cases e1 : n = 0
    · have e1' := eq_true e1
      simp +contextual only [e1', hl, ↓wA, wB, wZ, repeatV, RX.evs, spl, over, ones, Ex.ends, evR, oneOf, top, ↓reduceIte, Nat.reduceEqDiff, Nat.reduceLeDiff, Nat.reduceAdd, Nat.reduceSub, Nat.reduceMul, reduceCtorEq, Int.reduceEq, Int.reduceLT, Int.reduceLE, Int.reduceNeg, Int.reduceAdd, Int.reduceSub]
      exact hx
    · have e1' := eq_false e1
      simp +contextual only [e1', ↓wA, wB, wZ, repeatV, RX.evs, spl, over, ones, Ex.ends, evR, oneOf, top, ↓reduceIte, Nat.reduceEqDiff, Nat.reduceLeDiff, Nat.reduceAdd, Nat.reduceSub, Nat.reduceMul, reduceCtorEq, Int.reduceEq, Int.reduceLT, Int.reduceLE, Int.reduceNeg, Int.reduceAdd, Int.reduceSub]
      exact hx
  by_cases h345 : k = 3 ∨ k = 4 ∨ k = 5
  · have hm : mayM k n s = (decide (n = 0) && namedM k s) := by rcases h345 with rfl | rfl | rfl <;> rfl
    rw [hm]
    have k1 := eq_false h1
    have k2 := eq_false h2
    have key : ∀ R : Heap → Prop, (∀ h', Ext h h' → R h') → True := fun _ _ => trivial
    rcases h345 with rfl | rfl | rfl
    · by_cases e1 : n = 0
      · have e1' := eq_true e1
        simp +contextual only [e1', ↓wA, wB, wZ, repeatV, RX.evs, spl, over, ones, Ex.ends, evR, oneOf, top, ↓reduceIte, Nat.reduceEqDiff, Nat.reduceLeDiff, Nat.reduceAdd, Nat.reduceSub, Nat.reduceMul, reduceCtorEq, Int.reduceEq, Int.reduceLT, Int.reduceLE, Int.reduceNeg, Int.reduceAdd, Int.reduceSub]
        refine callK_intro (named_ctr 3 s (by omega) _) ?_
        rintro x h2 ⟨rfl, hx2⟩
        simp +contextual only [↓wA, wB, wZ, repeatV, RX.evs, spl, over, ones, Ex.ends, evR, oneOf, top, ↓reduceIte, Nat.reduceEqDiff, Nat.reduceLeDiff, Nat.reduceAdd, Nat.reduceSub, Nat.reduceMul, reduceCtorEq, Int.reduceEq, Int.reduceLT, Int.reduceLE, Int.reduceNeg, Int.reduceAdd, Int.reduceSub]
        exact hx.trans hx2
      · have e1' := eq_false e1
        simp +contextual only [e1', ↓wA, wB, wZ, repeatV, RX.evs, spl, over, ones, Ex.ends, evR, oneOf, top, ↓reduceIte, Nat.reduceEqDiff, Nat.reduceLeDiff, Nat.reduceAdd, Nat.reduceSub, Nat.reduceMul, reduceCtorEq, Int.reduceEq, Int.reduceLT, Int.reduceLE, Int.reduceNeg, Int.reduceAdd, Int.reduceSub]
        exact hx
    · by_cases e1 : n = 0
      · have e1' := eq_true e1
        simp +contextual only [e1', ↓wA, wB, wZ, repeatV, RX.evs, spl, over, ones, Ex.ends, evR, oneOf, top, ↓reduceIte, Nat.reduceEqDiff, Nat.reduceLeDiff, Nat.reduceAdd, Nat.reduceSub, Nat.reduceMul, reduceCtorEq, Int.reduceEq, Int.reduceLT, Int.reduceLE, Int.reduceNeg, Int.reduceAdd, Int.reduceSub]
        refine callK_intro (named_ctr 4 s (by omega) _) ?_
        rintro x h2 ⟨rfl, hx2⟩
        simp +contextual only [↓wA, wB, wZ, repeatV, RX.evs, spl, over, ones, Ex.ends, evR, oneOf, top, ↓reduceIte, Nat.reduceEqDiff, Nat.reduceLeDiff, Nat.reduceAdd, Nat.reduceSub, Nat.reduceMul, reduceCtorEq, Int.reduceEq, Int.reduceLT, Int.reduceLE, Int.reduceNeg, Int.reduceAdd, Int.reduceSub]
        exact hx.trans hx2
      · have e1' := eq_false e1
        simp +contextual only [e1', ↓wA, wB, wZ, repeatV, RX.evs, spl, over, ones, Ex.ends, evR, oneOf, top, ↓reduceIte, Nat.reduceEqDiff, Nat.reduceLeDiff, Nat.reduceAdd, Nat.reduceSub, Nat.reduceMul, reduceCtorEq, Int.reduceEq, Int.reduceLT, Int.reduceLE, Int.reduceNeg, Int.reduceAdd, Int.reduceSub]
        exact hx
    · by_cases e1 : n = 0
      · have e1' := eq_true e1
        simp +contextual only [e1', ↓wA, wB, wZ, repeatV, RX.evs, spl, over, ones, Ex.ends, evR, oneOf, top, ↓reduceIte, Nat.reduceEqDiff, Nat.reduceLeDiff, Nat.reduceAdd, Nat.reduceSub, Nat.reduceMul, reduceCtorEq, Int.reduceEq, Int.reduceLT, Int.reduceLE, Int.reduceNeg, Int.reduceAdd, Int.reduceSub]
        refine callK_intro (named_ctr 5 s (by omega) _) ?_
        rintro x h2 ⟨rfl, hx2⟩
        simp +contextual only [↓wA, wB, wZ, repeatV, RX.evs, spl, over, ones, Ex.ends, evR, oneOf, top, ↓reduceIte, Nat.reduceEqDiff, Nat.reduceLeDiff, Nat.reduceAdd, Nat.reduceSub, Nat.reduceMul, reduceCtorEq, Int.reduceEq, Int.reduceLT, Int.reduceLE, Int.reduceNeg, Int.reduceAdd, Int.reduceSub]
        exact hx.trans hx2
      · have e1' := eq_false e1
        simp +contextual only [e1', ↓wA, wB, wZ, repeatV, RX.evs, spl, over, ones, Ex.ends, evR, oneOf, top, ↓reduceIte, Nat.reduceEqDiff, Nat.reduceLeDiff, Nat.reduceAdd, Nat.reduceSub, Nat.reduceMul, reduceCtorEq, Int.reduceEq, Int.reduceLT, Int.reduceLE, Int.reduceNeg, Int.reduceAdd, Int.reduceSub]
        exact hx
  have h3 : ¬ k = 3 := fun q => h345 (.inl q)
  have h4 : ¬ k = 4 := fun q => h345 (.inr (.inl q))
  have h5 : ¬ k = 5 := fun q => h345 (.inr (.inr q))
  by_cases h6 : k = 6
  · subst h6
    rw [mayM6]
    by_cases e1 : n = 0
    · have e1' := eq_true e1
      by_cases e2 : s = []
      · have e2' := eq_true e2
        have hk : keyB s = false := by rw [e2]; rfl
        simp +contextual only [e1', e2', hk, ↓wA, wB, wZ, repeatV, RX.evs, spl, over, ones, Ex.ends, evR, oneOf, top, ↓reduceIte, Nat.reduceEqDiff, Nat.reduceLeDiff, Nat.reduceAdd, Nat.reduceSub, Nat.reduceMul, reduceCtorEq, Int.reduceEq, Int.reduceLT, Int.reduceLE, Int.reduceNeg, Int.reduceAdd, Int.reduceSub]
        exact hx
      · have e2' := eq_false e2
        simp +contextual only [e1', e2', ↓wA, wB, wZ, repeatV, RX.evs, spl, over, ones, Ex.ends, evR, oneOf, top, ↓reduceIte, Nat.reduceEqDiff, Nat.reduceLeDiff, Nat.reduceAdd, Nat.reduceSub, Nat.reduceMul, reduceCtorEq, Int.reduceEq, Int.reduceLT, Int.reduceLE, Int.reduceNeg, Int.reduceAdd, Int.reduceSub]
        refine callK_pure (contains_calls s [32] (by omega) _) ?_
        rw [contains_one]
        by_cases e3 : (32 : UInt8) ∈ s
        · have hk : keyB s = false := by
            cases hq : keyB s with
            | false => rfl
            | true => exact absurd e3 (key_no32 hq)
          have e3' := eq_true e3
          simp +contextual only [e1', e2', e3', hk, ↓wA, wB, wZ, repeatV, RX.evs, spl, over, ones, Ex.ends, evR, oneOf, top, ↓reduceIte, Nat.reduceEqDiff, Nat.reduceLeDiff, Nat.reduceAdd, Nat.reduceSub, Nat.reduceMul, reduceCtorEq, Int.reduceEq, Int.reduceLT, Int.reduceLE, Int.reduceNeg, Int.reduceAdd, Int.reduceSub]
          exact hx
        · have e3' := eq_false e3
          have hlt1 : (1 + s.length ≤ 17179869184) = True := eq_true (by omega)
          have hlt2 : (s.length + 1 + 1 ≤ 17179869184) = True := eq_true (by omega)
          have hlt3 : (s.length + 2 ≤ 17179869184) = True := eq_true (by omega)
          simp +contextual only [e1', e2', e3', hlt1, hlt2, hlt3, List.cons_append, List.nil_append, ↓wA, wB, wZ, repeatV, RX.evs, spl, over, ones, Ex.ends, evR, oneOf, top, ↓reduceIte, Nat.reduceEqDiff, Nat.reduceLeDiff, Nat.reduceAdd, Nat.reduceSub, Nat.reduceMul, reduceCtorEq, Int.reduceEq, Int.reduceLT, Int.reduceLE, Int.reduceNeg, Int.reduceAdd, Int.reduceSub]
          refine callK_pure (contains_calls keysText (32 :: (s ++ [32])) (by decide) _) ?_
          rw [contains_key s e3]
          simp +contextual only [↓wA, wB, wZ, repeatV, RX.evs, spl, over, ones, Ex.ends, evR, oneOf, top, ↓reduceIte, Nat.reduceEqDiff, Nat.reduceLeDiff, Nat.reduceAdd, Nat.reduceSub, Nat.reduceMul, reduceCtorEq, Int.reduceEq, Int.reduceLT, Int.reduceLE, Int.reduceNeg, Int.reduceAdd, Int.reduceSub]
          exact hx
    · have e1' := eq_false e1
      simp +contextual only [e1', ↓wA, wB, wZ, repeatV, RX.evs, spl, over, ones, Ex.ends, evR, oneOf, top, ↓reduceIte, Nat.reduceEqDiff, Nat.reduceLeDiff, Nat.reduceAdd, Nat.reduceSub, Nat.reduceMul, reduceCtorEq, Int.reduceEq, Int.reduceLT, Int.reduceLE, Int.reduceNeg, Int.reduceAdd, Int.reduceSub]
      exact hx
  by_cases h7 : k = 7
  · subst h7
    rw [mayM7]
    by_cases e1 : n = 0
    · have e1' := eq_true e1
      simp +contextual (maxSteps := 1000000) only [e1', ↓wA, wB, wZ, repeatV, RX.evs, spl, over, ones, Ex.ends, evR, oneOf, top, ↓reduceIte, Nat.reduceEqDiff, Nat.reduceLeDiff, Nat.reduceAdd, Nat.reduceSub, Nat.reduceMul, reduceCtorEq, Int.reduceEq, Int.reduceLT, Int.reduceLE, Int.reduceNeg, Int.reduceAdd, Int.reduceSub]
      generalize hH1 : h.new (.ofL [.int .i64 7, .int .i64 n, .int .i64 p, .str s] 0 false) = H1 at hx ⊢
      have g1 : H1.get (pa h.next) = .ofL [.int .i64 7, .int .i64 n, .int .i64 p, .str s] 0 false := by rw [← hH1, get_new_self]
      have o1 : Old H1 (pa h.next) := by rw [← hH1]; exact old_lt (by rw [next_new]; omega)
      refine callK_intro (signs_ctr H1) ?_
      rintro x h2 ⟨rfl, rfl⟩
      have hx2 : Ext H1 (H1.new (.ofL signVs 0 false)) := (Ext.refl H1).new _
      have g2 : (H1.new (.ofL signVs 0 false)).get (pa h.next) = .ofL [.int .i64 7, .int .i64 n, .int .i64 p, .str s] 0 false := by rw [hx2.get _ o1, g1]
      have hv : SlV (H1.new (.ofL signVs 0 false)) 1 (.slice (pa H1.next) 0 17 17) signList.length (strsV signList) := ⟨rfl, rfl, old_lt (by rw [next_new]; omega), signVs, .inr ⟨0, false, get_new_self _⟩, by decide, rfl⟩
      generalize H1.new (.ofL signVs 0 false) = H2 at hx2 g2 hv ⊢
      simp +contextual (maxSteps := 1000000) only [e1', g1, g2, ↓wA, wB, wZ, repeatV, RX.evs, spl, over, ones, Ex.ends, evR, oneOf, top, ↓reduceIte, Nat.reduceEqDiff, Nat.reduceLeDiff, Nat.reduceAdd, Nat.reduceSub, Nat.reduceMul, reduceCtorEq, Int.reduceEq, Int.reduceLT, Int.reduceLE, Int.reduceNeg, Int.reduceAdd, Int.reduceSub]
      refine callK_pure (contains64_pure s signList _ H2 hv (by decide)) ?_
      simp +contextual (maxSteps := 1000000) only [e1', g1, g2, ↓wA, wB, wZ, repeatV, RX.evs, spl, over, ones, Ex.ends, evR, oneOf, top, ↓reduceIte, Nat.reduceEqDiff, Nat.reduceLeDiff, Nat.reduceAdd, Nat.reduceSub, Nat.reduceMul, reduceCtorEq, Int.reduceEq, Int.reduceLT, Int.reduceLE, Int.reduceNeg, Int.reduceAdd, Int.reduceSub]
      exact hx.trans hx2
    · have e1' := eq_false e1
      simp +contextual (maxSteps := 1000000) only [e1', ↓wA, wB, wZ, repeatV, RX.evs, spl, over, ones, Ex.ends, evR, oneOf, top, ↓reduceIte, Nat.reduceEqDiff, Nat.reduceLeDiff, Nat.reduceAdd, Nat.reduceSub, Nat.reduceMul, reduceCtorEq, Int.reduceEq, Int.reduceLT, Int.reduceLE, Int.reduceNeg, Int.reduceAdd, Int.reduceSub]
      exact hx
  have hm : mayM k n s = false := by
    unfold mayM
    simp [h1, h2, h345, h6, h7]
  have k1 := eq_false h1
  have k2 := eq_false h2
  have k3 := eq_false h3
  have k4 := eq_false h4
  have k5 := eq_false h5
  have k6 := eq_false h6
  have k7 := eq_false h7
  rw [hm]
  simp +contextual only [k1, k2, k3, k4, k5, k6, k7, ↓wA, wB, wZ, repeatV, RX.evs, spl, over, ones, Ex.ends, evR, oneOf, top, ↓reduceIte, Nat.reduceEqDiff, Nat.reduceLeDiff, Nat.reduceAdd, Nat.reduceSub, Nat.reduceMul, reduceCtorEq, Int.reduceEq, Int.reduceLT, Int.reduceLE, Int.reduceNeg, Int.reduceAdd, Int.reduceSub]
  exact hx
end Go.Proofs.YthcgccnbhdociaaDoor

namespace Go.Proofs.YthcgccnbhdociaaDoor
open Go Am
set_option linter.unusedSectionVars false
set_option linter.unusedSimpArgs false
set_option linter.unusedVariables false

/-! A text, quoted. -/
theorem app_bsl {B : Nat} {h : Heap} {size : Nat} {s : V} {n m : Nat} {us cs : List V} (hsz : 1 ≤ size) (H1 : SlO B h size s n us) (hB : B ≤ h.next) (hlen : (n + m) * size ≤ top) (hcs : cs.length = m * size) (ho : ones cs = true) :
    ∃ v h', appV size s (.slice (pa h.next) 0 m m) (h.new (.ofL cs 0 false)) = .val v h' ∧ SlO B h' size v (n + m) (us ++ cs) ∧ Mod s.blk h h' ∧ h.next + 1 ≤ h'.next ∧ ∀ b, v.blk b → s.blk b ∨ h.next < unPa b := by
  have hx : Ext h (h.new (.ofL cs 0 false)) := (Ext.refl h).new _
  have hv : SlV (h.new (.ofL cs 0 false)) size (.slice (pa h.next) 0 m m) m cs := by
    refine ⟨hcs, rfl, old_lt (by rw [next_new]; omega), cs, .inr ⟨0, false, by rw [get_new_self]⟩, by omega, by simp⟩
  obtain ⟨v, h', q1, q2, q3, q4⟩ := app_own hsz (H1.ext hx) hv (by rw [next_new]; omega) hlen ho
  refine ⟨v, h', q1, q2, (hx.mod _).trans q3, by have := q3.next; rw [next_new] at this; exact this, fun b hb => ?_⟩
  rcases q4 b hb with q | q
  · exact .inl q
  · exact .inr (by rw [next_new] at q; omega)

def qb (c : UInt8) : List UInt8 :=
  if c = 34 ∨ c = 92 then [92, c] else if c.toNat < 32 ∨ 127 ≤ c.toNat then [92, (48 + c.toNat / 100).toUInt8, (48 + c.toNat / 10 % 10).toUInt8, (48 + c.toNat % 10).toUInt8] else [c]
def quotedM (s : List UInt8) : List UInt8 := 34 :: (s.flatMap qb ++ [34])
theorem qb_len (c : UInt8) : (qb c).length ≤ 4 := by
  unfold qb
  split
  · simp
  · split <;> simp
theorem qbs_len : ∀ s : List UInt8, (s.flatMap qb).length ≤ 4 * s.length
  | [] => by simp
  | c :: s => by
    rw [List.flatMap_cons, List.length_append, List.length_cons]
    have := qb_len c
    have := qbs_len s
    omega
theorem take_flat {s : List UInt8} {i : Nat} (hi : i < s.length) : (s.take (i + 1)).flatMap qb = (s.take i).flatMap qb ++ qb s[i] := by
  rw [← List.take_append_getElem hi, List.flatMap_append]
  simp
theorem quo_u8 (a k : Nat) (ha : a < 256) (hk : k ≠ 0) : (BK.int .quo).run Tryd.prog (.int .u8 (a : Int)) (.int .u8 (k : Int)) = some (.int .u8 ((a / k : Nat) : Int)) := by
  have hq : a / k ≤ a := Nat.div_le_self ..
  rw [k_quo .u8 _ _ (by omega), ← Int.ofNat_tdiv, wrap_u8 (Int.natCast_nonneg _) (Int.ofNat_lt.2 (Nat.lt_of_le_of_lt hq ha))]
theorem rem_u8 (a k : Nat) (hk : k ≠ 0) : (BK.int .rem).run Tryd.prog (.int .u8 (a : Int)) (.int .u8 (k : Int)) = some (.int .u8 ((a % k : Nat) : Int)) := by
  rw [k_rem .u8 _ _ (by omega), ← Int.ofNat_tmod]
theorem wr48 (a : Nat) (ha : a ≤ 9) : IntKind.u8.wrap (48 + (a : Int)) = ((48 + a : Nat) : Int) := by
  rw [wrap_u8 (by omega) (by omega)]
  omega
theorem toU8 (a : Nat) (ha : a < 256) : (a.toUInt8.toNat : Int) = (a : Int) := by simp; omega

theorem bytes_three (c : UInt8) : bytesV [92, (48 + c.toNat / 100).toUInt8, (48 + c.toNat / 10 % 10).toUInt8, (48 + c.toNat % 10).toUInt8] = [.int .u8 92, .int .u8 ((48 + c.toNat / 100 : Nat) : Int), .int .u8 ((48 + c.toNat / 10 % 10 : Nat) : Int), .int .u8 ((48 + c.toNat % 10 : Nat) : Int)] := by
  have hc := c.toNat_lt
  simp only [bytesV, toU8 _ (show 48 + c.toNat / 100 < 256 by omega), toU8 _ (show 48 + c.toNat / 10 % 10 < 256 by omega), toU8 _ (show 48 + c.toNat % 10 < 256 by omega)]
  rfl

theorem quoted_ctr (s : List UInt8) (hs : s.length ≤ 90000) (h : Heap) : Ctr Tryd.prog 38 [.str s] h fun x h' => x = .str (quotedM s) ∧ Ext h h' := by
  refine c38_ctr rfl (wpK_of ?_)
  unfold c38
  have htop : s.length ≤ top := by unfold top; omega
  simp +contextual only [conv_bytes s _ htop, ↓wA, wB, wZ, repeatV, RX.evs, spl, over, ones, Ex.ends, evR, oneOf, top, ↓reduceIte, Nat.reduceEqDiff, Nat.reduceLeDiff, Nat.reduceAdd, Nat.reduceSub, Nat.reduceMul, reduceCtorEq, Int.reduceEq, Int.reduceLT, Int.reduceLE, Int.reduceNeg, Int.reduceAdd, Int.reduceSub]
  have hx0 : Ext h (h.new (.ofL [.int .u8 34] 0 false)) := (Ext.refl h).new _
  have hv0 : SlO h.next (h.new (.ofL [.int .u8 34] 0 false)) 1 (.slice (pa h.next) 0 1 1) 1 (bytesV [34]) := ⟨rfl, rfl, by rw [unPa_pa]; exact Nat.le_refl _, old_lt (by rw [next_new]; omega), Nat.le_refl _, by unfold top; omega, _, 0, false, get_new_self _, by simp, rfl⟩
  have hn0 : (h.new (.ofL [.int .u8 34] 0 false)).next = h.next + 1 := next_new _ _
  generalize h.new (.ofL [.int .u8 34] 0 false) = h1 at *
  have hx1 : Ext h1 (h1.new (.ofL (bytesV s) 1 true)) := (Ext.refl h1).new _
  have hS := (conv_sl s h1).v
  have hn1 : (h1.new (.ofL (bytesV s) 1 true)).next = h.next + 2 := by rw [next_new, hn0]
  have hv1 := hv0.ext hx1
  have hx2 := hx0.trans hx1
  generalize h1.new (.ofL (bytesV s) 1 true) = h2 at *
  rw [hn0] at hS
  refine loopK_intro (fun r h' => ∃ (i : Nat) (v : V) (n : Nat), r 3 = v ∧ r 8 = .gslice (pa (h.next + 1)) 0 s.length 0 ∧ r 9 = .int .i64 s.length ∧ r 10 = .int .i64 i ∧ i ≤ s.length ∧ n ≤ 1 + 4 * i ∧
      SlO h.next h' 1 v n (bytesV (34 :: (s.take i).flatMap qb)) ∧ SlV h' 1 (.gslice (pa (h.next + 1)) 0 s.length 0) s.length (bytesV s) ∧ Ext h h' ∧ h.next + 2 ≤ h'.next ∧ ∀ b, v.blk b → b ≠ pa (h.next + 1)) (fun r h' => s.length - (r 10).toN) ?_ ?_
  · refine ⟨0, _, 1, by simp only [↓wA, wB, wZ, repeatV, RX.evs, spl, over, ones, Ex.ends, evR, oneOf, top, ↓reduceIte, Nat.reduceEqDiff, Nat.reduceLeDiff, Nat.reduceAdd, Nat.reduceSub, Nat.reduceMul, reduceCtorEq, Int.reduceEq, Int.reduceLT, Int.reduceLE, Int.reduceNeg, Int.reduceAdd, Int.reduceSub] <;> rfl, by simp only [↓wA, wB, wZ, repeatV, RX.evs, spl, over, ones, Ex.ends, evR, oneOf, top, ↓reduceIte, Nat.reduceEqDiff, Nat.reduceLeDiff, Nat.reduceAdd, Nat.reduceSub, Nat.reduceMul, reduceCtorEq, Int.reduceEq, Int.reduceLT, Int.reduceLE, Int.reduceNeg, Int.reduceAdd, Int.reduceSub], by simp only [↓wA, wB, wZ, repeatV, RX.evs, spl, over, ones, Ex.ends, evR, oneOf, top, ↓reduceIte, Nat.reduceEqDiff, Nat.reduceLeDiff, Nat.reduceAdd, Nat.reduceSub, Nat.reduceMul, reduceCtorEq, Int.reduceEq, Int.reduceLT, Int.reduceLE, Int.reduceNeg, Int.reduceAdd, Int.reduceSub], by simp only [↓wA, wB, wZ, repeatV, RX.evs, spl, over, ones, Ex.ends, evR, oneOf, top, ↓reduceIte, Nat.reduceEqDiff, Nat.reduceLeDiff, Nat.reduceAdd, Nat.reduceSub, Nat.reduceMul, reduceCtorEq, Int.reduceEq, Int.reduceLT, Int.reduceLE, Int.reduceNeg, Int.reduceAdd, Int.reduceSub] <;> rfl, by omega, by omega, hv1, hS, hx2, by omega, ?_⟩
    intro b hb e
    rw [show b = pa h.next from hb, pa_eq] at e
    omega
  · rintro r h' ⟨i, v, n, r3, r8, r9, r10, hi, hn, hv, hS', hx, hnx, hsep⟩
    unfold c38l1
    by_cases hlt : i < s.length
    · have g0 : ((i : Int) < (s.length : Int)) = True := eq_true (by omega)
      have hc256 := (s[i]).toNat_lt
      obtain ⟨b1, o1, ia1, at1⟩ := hS'.ia (k := .i64) hlt
      have ld1 := at1.ld1 (i := i * 1) (by rw [bytesV_len]; omega)
      simp only [Nat.mul_one] at ld1 ia1
      rw [bytesV_get s i hlt] at ld1
      have w : IntKind.i64.wrap ((i : Int) + 1) = ((i + 1 : Nat) : Int) := by rw [wrap_i64 (by omega) (by omega)]; rfl
      have e34 : (((s[i]).toNat : Int) = 34) = (s[i] = 34) := u8_eq _ 34 (by omega)
      have e92 : (((s[i]).toNat : Int) = 92) = (s[i] = 92) := u8_eq _ 92 (by omega)
      have on : ∀ (m : Nat) (cs : List V), cs = bytesV (qb s[i]) → cs.length = m * 1 → m ≤ 4 → ∃ v' h3, appV 1 v (.slice (pa h'.next) 0 m m) (h'.new (.ofL cs 0 false)) = .val v' h3 ∧ SlO h.next h3 1 v' (n + m) (bytesV (34 :: (s.take (i + 1)).flatMap qb)) ∧ SlV h3 1 (.gslice (pa (h.next + 1)) 0 s.length 0) s.length (bytesV s) ∧ Ext h h3 ∧ h.next + 2 ≤ h3.next ∧ ∀ b, v'.blk b → b ≠ pa (h.next + 1) := by
        intro m cs hcs hl hm
        obtain ⟨v', h3, q1, q2, q3, q4, q5⟩ := app_bsl (m := m) (cs := cs) (by omega) hv hx.next (by unfold top; omega) hl (by rw [hcs]; exact bytesV_ones _)
        refine ⟨v', h3, q1, ?_, hS'.mod q3 (fun b hb hq => hsep b hq hb), hx.mod_new q3 (fun b hb => hv.base hb), by omega, fun b hb => ?_⟩
        · rw [take_flat hlt, ← List.cons_append, bytesV_append, ← hcs]
          exact q2
        · rcases q5 b hb with q | q
          · exact hsep b q
          · intro e
            rw [e, unPa_pa] at q
            omega
      by_cases h1 : s[i] = 34 ∨ s[i] = 92
      · have hq : qb s[i] = [92, s[i]] := by unfold qb; rw [if_pos h1]
        obtain ⟨v', h3, q1, q2, q3, q4, q5, q6⟩ := on 2 [.int .u8 92, .int .u8 ((s[i]).toNat : Int)] (by rw [hq]; rfl) rfl (by omega)
        have fin : (h.next + 2 ≤ h3.next) := q5
        by_cases h34 : s[i] = 34
        · have t1 := eq_true h34
          simp +contextual only [r3, r8, r9, r10, g0, ia1, ld1, e34, e92, t1, q1, w, ↓wA, wB, wZ, repeatV, RX.evs, spl, over, ones, Ex.ends, evR, oneOf, top, ↓reduceIte, Nat.reduceEqDiff, Nat.reduceLeDiff, Nat.reduceAdd, Nat.reduceSub, Nat.reduceMul, reduceCtorEq, Int.reduceEq, Int.reduceLT, Int.reduceLE, Int.reduceNeg, Int.reduceAdd, Int.reduceSub]
          exact ⟨⟨i + 1, v', n + 2, rfl, rfl, hlt, by omega, q2, q3, q4, q5, q6⟩, by omega⟩
        · have t1 := eq_false h34
          have t2 := eq_true (h1.resolve_left h34)
          simp +contextual only [r3, r8, r9, r10, g0, ia1, ld1, e34, e92, t1, t2, q1, w, ↓wA, wB, wZ, repeatV, RX.evs, spl, over, ones, Ex.ends, evR, oneOf, top, ↓reduceIte, Nat.reduceEqDiff, Nat.reduceLeDiff, Nat.reduceAdd, Nat.reduceSub, Nat.reduceMul, reduceCtorEq, Int.reduceEq, Int.reduceLT, Int.reduceLE, Int.reduceNeg, Int.reduceAdd, Int.reduceSub]
          exact ⟨⟨i + 1, v', n + 2, rfl, rfl, hlt, by omega, q2, q3, q4, q5, q6⟩, by omega⟩
      · have n34 := eq_false (fun q => h1 (.inl q) : ¬ s[i] = 34)
        have n92 := eq_false (fun q => h1 (.inr q) : ¬ s[i] = 92)
        by_cases h2 : (s[i]).toNat < 32 ∨ 127 ≤ (s[i]).toNat
        · have hq : qb s[i] = [92, (48 + (s[i]).toNat / 100).toUInt8, (48 + (s[i]).toNat / 10 % 10).toUInt8, (48 + (s[i]).toNat % 10).toUInt8] := by unfold qb; rw [if_neg h1, if_pos h2]
          obtain ⟨v', h3, q1, q2, q3, q4, q5, q6⟩ := on 4 [.int .u8 92, .int .u8 ((48 + (s[i]).toNat / 100 : Nat) : Int), .int .u8 ((48 + (s[i]).toNat / 10 % 10 : Nat) : Int), .int .u8 ((48 + (s[i]).toNat % 10 : Nat) : Int)] (by rw [hq, bytes_three]) rfl (by omega)
          have x1 : (BK.int .quo).run Tryd.prog (.int .u8 ((s[i]).toNat : Int)) (.int .u8 100) = some (.int .u8 (((s[i]).toNat / 100 : Nat) : Int)) := quo_u8 (s[i]).toNat 100 hc256 (by omega)
          have x2 : (BK.int .quo).run Tryd.prog (.int .u8 ((s[i]).toNat : Int)) (.int .u8 10) = some (.int .u8 (((s[i]).toNat / 10 : Nat) : Int)) := quo_u8 (s[i]).toNat 10 hc256 (by omega)
          have x3 : (BK.int .rem).run Tryd.prog (.int .u8 (((s[i]).toNat / 10 : Nat) : Int)) (.int .u8 10) = some (.int .u8 (((s[i]).toNat / 10 % 10 : Nat) : Int)) := rem_u8 ((s[i]).toNat / 10) 10 (by omega)
          have x4 : (BK.int .rem).run Tryd.prog (.int .u8 ((s[i]).toNat : Int)) (.int .u8 10) = some (.int .u8 (((s[i]).toNat % 10 : Nat) : Int)) := rem_u8 (s[i]).toNat 10 (by omega)
          have w1 := wr48 ((s[i]).toNat / 100) (by omega)
          have w2 := wr48 ((s[i]).toNat / 10 % 10) (by omega)
          have w3 := wr48 ((s[i]).toNat % 10) (by omega)
          by_cases h32 : (s[i]).toNat < 32
          · have t1 : (((s[i]).toNat : Int) < 32) = True := eq_true (by omega)
            simp +contextual only [r3, r8, r9, r10, g0, ia1, ld1, e34, e92, n34, n92, t1, x1, x2, x3, x4, w1, w2, w3, q1, w, ↓wA, wB, wZ, repeatV, RX.evs, spl, over, ones, Ex.ends, evR, oneOf, top, ↓reduceIte, Nat.reduceEqDiff, Nat.reduceLeDiff, Nat.reduceAdd, Nat.reduceSub, Nat.reduceMul, reduceCtorEq, Int.reduceEq, Int.reduceLT, Int.reduceLE, Int.reduceNeg, Int.reduceAdd, Int.reduceSub]
            exact ⟨⟨i + 1, v', n + 4, rfl, rfl, hlt, by omega, q2, q3, q4, q5, q6⟩, by omega⟩
          · have t1 : (((s[i]).toNat : Int) < 32) = False := eq_false (by omega)
            have t2 : ((127 : Int) ≤ ((s[i]).toNat : Int)) = True := eq_true (by omega)
            simp +contextual only [r3, r8, r9, r10, g0, ia1, ld1, e34, e92, n34, n92, t1, t2, x1, x2, x3, x4, w1, w2, w3, q1, w, ↓wA, wB, wZ, repeatV, RX.evs, spl, over, ones, Ex.ends, evR, oneOf, top, ↓reduceIte, Nat.reduceEqDiff, Nat.reduceLeDiff, Nat.reduceAdd, Nat.reduceSub, Nat.reduceMul, reduceCtorEq, Int.reduceEq, Int.reduceLT, Int.reduceLE, Int.reduceNeg, Int.reduceAdd, Int.reduceSub]
            exact ⟨⟨i + 1, v', n + 4, rfl, rfl, hlt, by omega, q2, q3, q4, q5, q6⟩, by omega⟩
        · have hq : qb s[i] = [s[i]] := by unfold qb; rw [if_neg h1, if_neg h2]
          obtain ⟨v', h3, q1, q2, q3, q4, q5, q6⟩ := on 1 [.int .u8 ((s[i]).toNat : Int)] (by rw [hq]; rfl) rfl (by omega)
          have t1 : (((s[i]).toNat : Int) < 32) = False := eq_false (by omega)
          have t2 : ((127 : Int) ≤ ((s[i]).toNat : Int)) = False := eq_false (by omega)
          simp +contextual only [r3, r8, r9, r10, g0, ia1, ld1, e34, e92, n34, n92, t1, t2, q1, w, ↓wA, wB, wZ, repeatV, RX.evs, spl, over, ones, Ex.ends, evR, oneOf, top, ↓reduceIte, Nat.reduceEqDiff, Nat.reduceLeDiff, Nat.reduceAdd, Nat.reduceSub, Nat.reduceMul, reduceCtorEq, Int.reduceEq, Int.reduceLT, Int.reduceLE, Int.reduceNeg, Int.reduceAdd, Int.reduceSub]
          exact ⟨⟨i + 1, v', n + 1, rfl, rfl, hlt, by omega, q2, q3, q4, q5, q6⟩, by omega⟩
    · have hi' : i = s.length := by omega
      have g0 : ((i : Int) < (s.length : Int)) = False := eq_false (by omega)
      have hl := qbs_len s
      rw [hi', List.take_length] at hv
      obtain ⟨v', h3, q1, q2, q3, q4, q5⟩ := app_bsl (m := 1) (cs := [.int .u8 34]) (by omega) hv hx.next (by unfold top; omega) rfl rfl
      have hb : bytesV (34 :: s.flatMap qb) ++ [.int .u8 34] = bytesV (quotedM s) := by
        unfold quotedM
        rw [← List.cons_append, bytesV_append]
        rfl
      rw [hb] at q2
      have hlen : n + 1 = (quotedM s).length := by
        have := q2.1
        rw [bytesV_len, Nat.mul_one] at this
        omega
      rw [hlen] at q2
      simp +contextual only [r3, r8, r9, r10, g0, q1, convStr_own q2, ↓wA, wB, wZ, repeatV, RX.evs, spl, over, ones, Ex.ends, evR, oneOf, top, ↓reduceIte, Nat.reduceEqDiff, Nat.reduceLeDiff, Nat.reduceAdd, Nat.reduceSub, Nat.reduceMul, reduceCtorEq, Int.reduceEq, Int.reduceLT, Int.reduceLE, Int.reduceNeg, Int.reduceAdd, Int.reduceSub]
      exact hx.mod_new q3 (fun b hb => hv.base hb)
end Go.Proofs.YthcgccnbhdociaaDoor

namespace Go.Proofs.YthcgccnbhdociaaDoor
open Go Am Go.Shelf
set_option linter.unusedSectionVars false
set_option linter.unusedSimpArgs false
set_option linter.unusedVariables false

def Tryd.lays156_ren : Go.Shelf.Ren := ⟨fun | 156 => 39 | 165 => 66 | 166 => 67 | 169 => 68 | 240 => 83 | 241 => 84 | 276 => 94 | 277 => 95 | n => n, fun | 31 => 58 | 9 => 9 | 3 => 3 | 4 => 4 | 0 => 0 | 20 => 20 | 72 => 78 | 76 => 82 | 70 => 76 | 37 => 43 | 75 => 81 | 127 => 98 | 164 => 106 | 5 => 5 | 80 => 84 | n => n, fun | n => n⟩
theorem Tryd.lays156 : Go.Proofs.Lays.n156 Tryd.prog Tryd.lays156_ren := {
  mixed := by kernel_rfl,
  f156 := Tryd.func39.trans (congrArg some (by kernel_rfl)),
  f165 := Tryd.func66.trans (congrArg some (by kernel_rfl)),
  f166 := Tryd.func67.trans (congrArg some (by kernel_rfl)),
  f169 := Tryd.func68.trans (congrArg some (by kernel_rfl)),
  f240 := Tryd.func83.trans (congrArg some (by kernel_rfl)),
  f241 := Tryd.func84.trans (congrArg some (by kernel_rfl)),
  f276 := Tryd.func94.trans (congrArg some (by kernel_rfl)),
  f277 := Tryd.func95.trans (congrArg some (by kernel_rfl)),
  t0 := Tryd.underlying0,
  a0 := Tryd.isAgg0,
  z0 := Tryd.sizeOf0,
  v0 := Tryd.zeroValue0,
  t3 := Tryd.underlying3,
  a3 := Tryd.isAgg3,
  z3 := Tryd.sizeOf3,
  v3 := Tryd.zeroValue3,
  t4 := Tryd.underlying4,
  a4 := Tryd.isAgg4,
  z4 := Tryd.sizeOf4,
  v4 := Tryd.zeroValue4,
  t9 := Tryd.underlying9,
  a9 := Tryd.isAgg9,
  z9 := Tryd.sizeOf9,
  v9 := Tryd.zeroValue9,
  t20 := Tryd.underlying20,
  a20 := Tryd.isAgg20,
  z20 := Tryd.sizeOf20,
  v20 := Tryd.zeroValue20,
  t31 := Tryd.underlying58,
  a31 := Tryd.isAgg58,
  z31 := Tryd.sizeOf58,
  v31 := Tryd.zeroValue58,
  t37 := Tryd.underlying43,
  a37 := Tryd.isAgg43,
  z37 := Tryd.sizeOf43,
  v37 := Tryd.zeroValue43,
  t70 := Tryd.underlying76,
  a70 := Tryd.isAgg76,
  z70 := Tryd.sizeOf76,
  v70 := Tryd.zeroValue76,
  t72 := Tryd.underlying78,
  a72 := Tryd.isAgg78,
  z72 := Tryd.sizeOf78,
  v72 := Tryd.zeroValue78,
  t75 := Tryd.underlying81,
  a75 := Tryd.isAgg81,
  z75 := Tryd.sizeOf81,
  v75 := Tryd.zeroValue81,
  t76 := Tryd.underlying82,
  a76 := Tryd.isAgg82,
  z76 := Tryd.sizeOf82,
  v76 := Tryd.zeroValue82,
  t127 := Tryd.underlying98,
  a127 := Tryd.isAgg98,
  z127 := Tryd.sizeOf98,
  v127 := Tryd.zeroValue98,
  t164 := Tryd.underlying106,
  a164 := Tryd.isAgg106,
  z164 := Tryd.sizeOf106,
  v164 := Tryd.zeroValue106 }
theorem Tryd.extra156 : Builder.Extra Tryd.prog Tryd.lays156_ren where
  sizeBuilder := by kernel_rfl
  liesBuilder := by kernel_rfl
  t5 := Tryd.underlying5
  a5 := Tryd.isAgg5
  z5 := Tryd.sizeOf5
  v5 := Tryd.zeroValue5
  infoByte := by kernel_rfl
  cellsByte := by kernel_rfl
  sizeByte := by kernel_rfl
  neB5 := by decide

theorem world_cells {w0 : Fr} {E : Env} {h : Heap} {W : World} (s : Sim w0 E h W) {b : Pa} {p : Pl} (hp : E b = some p) {off : Nat} {vs : List V} (H : AtL h b off vs) :
    p.blk < W.heap.size ∧ ∀ i v, vs[i]? = some v → ∃ y, W.cell? ⟨p.blk, p.base + off + i, none⟩ = some y ∧ Rel E v y := by
  obtain ⟨_, us, hr, hle, htk⟩ := H
  have key : ∃ c el fz, W.heap[p.blk]? = some (.cells c el fz) ∧ CellsOk E us.length p.base (puts .e 0 us) c := by
    have hb := s.at hp
    rcases hr with hr | ⟨esz, st, hr⟩
    · rw [hr] at hb
      obtain ⟨_, p', c, el, fz, q1, q2, q3, q4⟩ := hb
      rw [hp] at q1
      cases q1
      exact ⟨c, el, fz, q3, q4⟩
    · rw [hr] at hb
      obtain ⟨_, p', c, el, fz, q1, q2, q3, _, _, _, q4⟩ := hb
      rw [hp] at q1
      cases q1
      exact ⟨c, el, fz, q3, q4⟩
  obtain ⟨c, el, fz, k1, k2, k3⟩ := key
  refine ⟨?_, fun i v hv => ?_⟩
  · rcases Nat.lt_or_ge p.blk W.heap.size with q | q
    · exact q
    · rw [Array.getElem?_eq_none q] at k1; cases k1
  · have hi : i < vs.length := by
      rcases Nat.lt_or_ge i vs.length with q | q
      · exact q
      · rw [List.getElem?_eq_none q] at hv; cases hv
    have hlt : p.base + off + i < c.size := by omega
    refine ⟨c[p.base + off + i], ?_, ?_⟩
    · simp only [World.cell?, k1]
      exact Array.getElem?_eq_getElem hlt
    · have := k3 (off + i) c[p.base + off + i] (by omega) (by rw [← Nat.add_assoc]; exact Array.getElem?_eq_getElem hlt)
      have hg := get_puts us 0 (off + i) .e
      rw [if_pos (by omega), Nat.zero_add] at hg
      rw [hg] at this
      have hu : us[off + i]? = some v := by
        rw [← htk, List.getElem?_take, if_pos hi, List.getElem?_drop] at hv
        exact hv
      rw [hu] at this
      exact this

theorem join_calls (L : List (List UInt8)) (sep : List UInt8) (v : V) (h : Heap) (H : SlV h 1 v L.length (strsV L)) (hl : L.length ≤ 1000000000) (hj : (Lib.join L sep).length ≤ 10000000000) :
    CallsV Tryd.prog 39 [v, .str sep] h (.str (Lib.join L sep)) h := by
  refine .inl ⟨⟨_, Tryd.func39, by kernel_rfl⟩, fun w0 E W xs hx s => ?_⟩
  obtain ⟨y, ys, rfl, q1, z, zs, rfl, q2, rfl⟩ := hx
  simp only [Rel] at q2
  subst q2
  have hmap : (L.map fun x => (⟨⟨x⟩⟩ : ByteArray)).map (·.data.toList) = L := by
    rw [List.map_map]
    exact (List.map_congr_left (fun _ _ => rfl)).trans (List.map_id L)
  have cells : ∀ (b : Pa) (off c : Nat) (p : Pl), E b = some p → AtL h b off (strsV L) → L.length ≤ c → y = .slice (some ⟨p.blk, p.base + off, none⟩) L.length c → Calls Tryd.prog 39 #[y, .string ⟨⟨sep⟩⟩] W fun e w' => ∃ E' x, e = .returned x ∧ E.le E' ∧ Rel E' (.str (Lib.join L sep)) x ∧ Sim w0 E' h w' := by
    intro b off c p hp hA hc hy
    obtain ⟨k1, k2⟩ := world_cells s hp hA
    have hcells : ∀ (j : Nat) (x : ByteArray), (L.map fun x => (⟨⟨x⟩⟩ : ByteArray))[j]? = some x → W.cell? ⟨p.blk, p.base + off + j, none⟩ = some (.string x) := by
      intro j x hx
      rw [List.getElem?_map] at hx
      cases hL : L[j]? with
      | none => rw [hL] at hx; cases hx
      | some t =>
        rw [hL] at hx
        cases hx
        obtain ⟨y, g1, g2⟩ := k2 j (.str t) (by unfold strsV; rw [List.getElem?_map, hL]; rfl)
        simp only [Rel] at g2
        rw [g1, g2]
    have := Any.strings_Join Tryd.lays156 Tryd.extra156 p.blk (p.base + off) c (L.map fun x => (⟨⟨x⟩⟩ : ByteArray)) ⟨⟨sep⟩⟩ W hcells k1 (by rw [List.length_map]; omega) (by rw [List.length_map]; exact hc) (by rw [hmap]; show (Lib.join L sep).length ≤ _; omega)
    rw [hmap, List.length_map] at this
    rw [hy]
    refine this.mono fun e w' q => ?_
    exact ⟨E, _, q.1, fun _ _ q => q, by simp only [Rel], s.below q.2⟩
  have none' : ∀ a c, L.length = 0 → y = .slice a 0 c → Calls Tryd.prog 39 #[y, .string ⟨⟨sep⟩⟩] W fun e w' => ∃ E' x, e = .returned x ∧ E.le E' ∧ Rel E' (.str (Lib.join L sep)) x ∧ Sim w0 E' h w' := by
    intro a c h0 hy
    have hL : L = [] := List.eq_nil_of_length_eq_zero h0
    subst hL
    rw [hy]
    refine (Any.strings_Join_none Tryd.lays156 Tryd.extra156 a c ⟨⟨sep⟩⟩ W).mono fun e w' q => ?_
    obtain ⟨q1, rfl⟩ := q
    exact ⟨E, _, q1, fun _ _ q => q, by simp only [Rel]; rfl, s⟩
  have H2 := H.2
  cases v <;> simp only at H2 <;> first | exact H2.elim | skip
  · simp only [Rel] at q1
    obtain ⟨p, g1, g2, g3⟩ := q1
    obtain ⟨e1, e2⟩ := H2
    rw [e1] at g2 g3
    exact cells _ _ _ p g1 e2 g2 g3
  · simp only [Rel] at q1
    obtain ⟨p, g1, g2, g3⟩ := q1
    obtain ⟨e1, e2⟩ := H2
    rw [e1] at g2 g3
    exact cells _ _ _ p g1 e2 (by omega) g3
  · simp only [Rel] at q1
    obtain ⟨a, c, rfl⟩ := q1
    exact none' _ _ H2 rfl
  · simp only [Rel] at q1
    exact none' _ _ H2 q1
end Go.Proofs.YthcgccnbhdociaaDoor

namespace Go.Proofs.YthcgccnbhdociaaDoor
open Go Am
set_option linter.unusedSectionVars false
set_option linter.unusedSimpArgs false
set_option linter.unusedVariables false

/-! Words of any place; their text. -/
structure Wi where
  kind : Int
  num : Int
  pos : Int
  text : List UInt8
deriving DecidableEq
def Wi.enc (w : Wi) : List V := [.int .i64 w.kind, .int .i64 w.num, .int .i64 w.pos, .str w.text]
def wisV : List Wi → List V
  | [] => []
  | w :: ws => w.enc ++ wisV ws
theorem wisV_len : ∀ ws : List Wi, (wisV ws).length = ws.length * 4
  | [] => rfl
  | w :: ws => by rw [wisV, List.length_append, wisV_len ws, List.length_cons]; simp [Wi.enc]; omega
theorem wisV_at : ∀ (ws : List Wi) (i : Nat) (hi : i < ws.length), ((wisV ws).drop (i * 4)).take 4 = ws[i].enc
  | w :: ws, 0, _ => by simp [wisV, Wi.enc]
  | w :: ws, i + 1, hi => by
    have := wisV_at ws i (by simpa using hi)
    rw [show (i + 1) * 4 = 4 + i * 4 from by omega]
    simp only [wisV, List.getElem_cons_succ]
    rw [← List.drop_drop, show (w.enc ++ wisV ws).drop 4 = wisV ws from by simp [Wi.enc]]
    exact this
def writtenM (k n : Int) (s : List UInt8) : List UInt8 :=
  if k = 1 then Lib.itoa (if n < 0 then n + 2147483648 else n) else if k = 2 then quotedM s else if k = 5 then 39 :: s else s
def Wi.may (w : Wi) : Bool := mayM w.kind w.num w.text
def Wi.out (w : Wi) : List UInt8 := writtenM w.kind w.num w.text
def writeM (ws : List Wi) : List UInt8 × Int := if ws.all Wi.may then (Lib.join (ws.map Wi.out) [32], 0) else ([], 2)

theorem and31 {n : Int} (h0 : -1073741824 ≤ n) (h1 : n ≤ 1073741823) : (BK.int .and).run Tryd.prog (.int .i64 n) (.int .i64 2147483647) = some (.int .i64 (if n < 0 then n + 2147483648 else n)) := by
  have h : (BK.int .and).run Tryd.prog (.int .i64 n) (.int .i64 2147483647) = some (.int .i64 (IntKind.i64.wrap ((BitVec.ofInt 64 n &&& BitVec.ofInt 64 2147483647).toNat : Nat))) := rfl
  rw [h, BitVec.toNat_and, BitVec.toNat_ofInt, BitVec.toNat_ofInt]
  have e : ((2147483647 : Int) % ((2 ^ 64 : Nat) : Int)).toNat = 2 ^ 31 - 1 := by decide
  rw [e, Nat.and_two_pow_sub_one_eq_mod]
  have e2 : ((2 ^ 64 : Nat) : Int) = 18446744073709551616 := by decide
  rw [e2]
  have e3 : (((n % 18446744073709551616).toNat % 2 ^ 31 : Nat) : Int) = if n < 0 then n + 2147483648 else n := by
    split <;> omega
  rw [e3, wrap_i64 (by split <;> omega) (by split <;> omega)]
theorem join_len (M : Nat) : ∀ L : List (List UInt8), (∀ x ∈ L, x.length ≤ M) → (Lib.join L [32]).length ≤ L.length * (M + 1)
  | [], _ => by simp [Lib.join_nil]
  | x :: L, h => by
    rw [Lib.join_cons, List.length_append]
    have ht : ∀ L : List (List UInt8), (∀ x ∈ L, x.length ≤ M) → (Lib.joinTail [32] L).length ≤ L.length * (M + 1) := by
      intro L
      induction L with
      | nil => intro _; simp [Lib.joinTail]
      | cons y L ih =>
        intro h
        have := ih (fun x hx => h x (List.mem_cons_of_mem _ hx))
        have hy := h y (List.mem_cons_self ..)
        have e : Lib.joinTail [32] (y :: L) = (32 :: y) ++ Lib.joinTail [32] L := by simp [Lib.joinTail]
        rw [e, List.length_append, List.length_cons, List.length_cons, Nat.add_mul]
        omega
    have := ht L (fun x hx => h x (List.mem_cons_of_mem _ hx))
    have hx := h x (List.mem_cons_self ..)
    rw [List.length_cons, Nat.add_mul]
    omega
theorem out_len {w : Wi} (h : w.may = true) (hs : w.text.length ≤ 50000) : w.out.length ≤ 200002 := by
  unfold Wi.out writtenM
  split
  · rename_i hk
    unfold Wi.may mayM at h
    rw [if_pos hk] at h
    simp only [Bool.and_eq_true, decide_eq_true_eq] at h
    have := Lib.itoa_length_le (if w.num < 0 then w.num + 2147483648 else w.num) (by split <;> omega) (by split <;> omega)
    omega
  · split
    · unfold quotedM
      have := qbs_len w.text
      simp only [List.length_cons, List.length_append, List.length_nil]
      omega
    · split
      · simp only [List.length_cons]; omega
      · omega
theorem write_ctr (v0 : V) (ws : List Wi) (h : Heap) (H : SlV h 4 v0 ws.length (wisV ws)) (hl : ws.length ≤ 10000) (ht : ∀ w ∈ ws, w.text.length ≤ 50000) :
    Ctr Tryd.prog 18 [v0] h fun x h' => x = .tuple [.str (writeM ws).1, .int .i64 (writeM ws).2] ∧ Ext h h' := by
  refine c18_ctr rfl (wpK_of ?_)
  unfold c18
  simp +contextual only [H.len, ↓wA, wB, wZ, repeatV, RX.evs, spl, over, ones, Ex.ends, evR, oneOf, top, ↓reduceIte, Nat.reduceEqDiff, Nat.reduceLeDiff, Nat.reduceAdd, Nat.reduceSub, Nat.reduceMul, reduceCtorEq, Int.reduceEq, Int.reduceLT, Int.reduceLE, Int.reduceNeg, Int.reduceAdd, Int.reduceSub]
  refine loopK_intro (fun r h' => ∃ (i : Nat) (v : V), r 4 = v ∧ r 8 = v0 ∧ r 9 = .int .i64 ws.length ∧ r 10 = .int .i64 i ∧ i ≤ ws.length ∧ ((ws.take i).all Wi.may = true) ∧
      SlO h.next h' 1 v i (strsV ((ws.take i).map Wi.out)) ∧ Ext h h') (fun r h' => ws.length - (r 10).toN) ?_ ?_
  · refine ⟨0, .nilslice, by simp only [↓wA, wB, wZ, repeatV, RX.evs, spl, over, ones, Ex.ends, evR, oneOf, top, ↓reduceIte, Nat.reduceEqDiff, Nat.reduceLeDiff, Nat.reduceAdd, Nat.reduceSub, Nat.reduceMul, reduceCtorEq, Int.reduceEq, Int.reduceLT, Int.reduceLE, Int.reduceNeg, Int.reduceAdd, Int.reduceSub], by simp only [↓wA, wB, wZ, repeatV, RX.evs, spl, over, ones, Ex.ends, evR, oneOf, top, ↓reduceIte, Nat.reduceEqDiff, Nat.reduceLeDiff, Nat.reduceAdd, Nat.reduceSub, Nat.reduceMul, reduceCtorEq, Int.reduceEq, Int.reduceLT, Int.reduceLE, Int.reduceNeg, Int.reduceAdd, Int.reduceSub], by simp only [↓wA, wB, wZ, repeatV, RX.evs, spl, over, ones, Ex.ends, evR, oneOf, top, ↓reduceIte, Nat.reduceEqDiff, Nat.reduceLeDiff, Nat.reduceAdd, Nat.reduceSub, Nat.reduceMul, reduceCtorEq, Int.reduceEq, Int.reduceLT, Int.reduceLE, Int.reduceNeg, Int.reduceAdd, Int.reduceSub], by simp only [↓wA, wB, wZ, repeatV, RX.evs, spl, over, ones, Ex.ends, evR, oneOf, top, ↓reduceIte, Nat.reduceEqDiff, Nat.reduceLeDiff, Nat.reduceAdd, Nat.reduceSub, Nat.reduceMul, reduceCtorEq, Int.reduceEq, Int.reduceLT, Int.reduceLE, Int.reduceNeg, Int.reduceAdd, Int.reduceSub] <;> rfl, by omega, rfl, ⟨by simp [strsV], by simp⟩, Ext.refl _⟩
  · rintro r h' ⟨i, v, r4, r8, r9, r10, hi, hall, hv, hx⟩
    unfold c18l1
    by_cases hlt : i < ws.length
    · have g0 : ((i : Int) < (ws.length : Int)) = True := eq_true (by omega)
      obtain ⟨b1, o1, ia1, at1⟩ := (H.ext hx).ia (k := .i64) hlt
      have ld1 := at1.ldn (i := i * 4) (n := 4) (by rw [wisV_len]; omega)
      rw [wisV_at ws i hlt] at ld1
      have w : IntKind.i64.wrap ((i : Int) + 1) = ((i + 1 : Nat) : Int) := by rw [wrap_i64 (by omega) (by omega)]; rfl
      have hwt := ht ws[i] (List.getElem_mem hlt)
      have hmay : ws[i].may = mayM ws[i].kind ws[i].num ws[i].text := rfl
      have hout : ws[i].out = writtenM ws[i].kind ws[i].num ws[i].text := rfl
      have hno : ws[i].may = false → writeM ws = ([], 2) := by
        intro q
        unfold writeM
        rw [if_neg]
        rw [List.all_eq_true]
        intro q2
        rw [q2 _ (List.getElem_mem hlt)] at q
        cases q
      have htake : ws.take (i + 1) = ws.take i ++ [ws[i]] := (List.take_append_getElem hlt).symm
      unfold Wi.enc at ld1
      generalize ws[i] = wd at *
      obtain ⟨k, n, p, s⟩ := wd
      simp only at *
      simp +contextual only [r4, r8, r9, r10, g0, ia1, ld1, w, ↓wA, wB, wZ, repeatV, RX.evs, spl, over, ones, Ex.ends, evR, oneOf, top, ↓reduceIte, Nat.reduceEqDiff, Nat.reduceLeDiff, Nat.reduceAdd, Nat.reduceSub, Nat.reduceMul, reduceCtorEq, Int.reduceEq, Int.reduceLT, Int.reduceLE, Int.reduceNeg, Int.reduceAdd, Int.reduceSub]
      have hx1 : Ext h' ((h'.new (.ofL [.int .i64 0, .int .i64 0, .int .i64 0, .str []] 0 false)).set (pa h'.next) (.ofL [.int .i64 k, .int .i64 n, .int .i64 p, .str s] 0 false)) := ((Ext.refl h').new _).set (Nat.le_refl _) _
      have g1 : ((h'.new (.ofL [.int .i64 0, .int .i64 0, .int .i64 0, .str []] 0 false)).set (pa h'.next) (.ofL [.int .i64 k, .int .i64 n, .int .i64 p, .str s] 0 false)).get (pa h'.next) = .ofL [.int .i64 k, .int .i64 n, .int .i64 p, .str s] 0 false := by rw [get_set, if_pos rfl]
      have n1 : ((h'.new (.ofL [.int .i64 0, .int .i64 0, .int .i64 0, .str []] 0 false)).set (pa h'.next) (.ofL [.int .i64 k, .int .i64 n, .int .i64 p, .str s] 0 false)).next = h'.next + 1 := by rw [next_set, next_new]
      generalize ((h'.new (.ofL [.int .i64 0, .int .i64 0, .int .i64 0, .str []] 0 false)).set (pa h'.next) (.ofL [.int .i64 k, .int .i64 n, .int .i64 p, .str s] 0 false)) = H1 at hx1 g1 n1 ⊢
      refine callK_intro (may_ctr k n p s (by omega) H1) ?_
      rintro x h2 ⟨rfl, hx2⟩
      have g2 : h2.get (pa h'.next) = .ofL [.int .i64 k, .int .i64 n, .int .i64 p, .str s] 0 false := by rw [hx2.get _ (old_lt (by omega)), g1]
      have hxx : Ext h h2 := (hx.trans hx1).trans hx2
      have hv2 := (hv.ext hx1).ext hx2
      cases hm : mayM k n s with
      | false =>
        simp +contextual only [↓wA, wB, wZ, repeatV, RX.evs, spl, over, ones, Ex.ends, evR, oneOf, top, ↓reduceIte, Nat.reduceEqDiff, Nat.reduceLeDiff, Nat.reduceAdd, Nat.reduceSub, Nat.reduceMul, reduceCtorEq, Int.reduceEq, Int.reduceLT, Int.reduceLE, Int.reduceNeg, Int.reduceAdd, Int.reduceSub]
        rw [hno (hmay.trans hm)]
        exact ⟨rfl, hxx⟩
      | true =>
        have on : ∀ h3, Ext h2 h3 → ∃ v' h4, appV 1 v (.slice (pa h3.next) 0 1 1) (h3.new (.ofL [.str (writtenM k n s)] 0 false)) = .val v' h4 ∧ SlO h.next h4 1 v' (i + 1) (strsV ((ws.take (i + 1)).map Wi.out)) ∧ Ext h h4 := by
          intro h3 hx3
          have hx4 := hxx.trans hx3
          obtain ⟨v', h4, q1, q2, q3, q4, q5⟩ := app_bsl (m := 1) (cs := [.str (writtenM k n s)]) (by omega) (hv2.ext hx3) hx4.next (by unfold top; omega) rfl rfl
          refine ⟨v', h4, q1, ?_, hx4.mod_new q3 (fun b hb => hv.base hb)⟩
          rw [htake, List.map_append]
          unfold strsV at q2 ⊢
          rw [List.map_append]
          simpa [hout] using q2
        have hall2 : (ws.take (i + 1)).all Wi.may = true := by
          rw [htake, List.all_append, hall]
          simp [hmay, hm]
        by_cases h1 : k = 1
        · subst h1
          rw [mayM1] at hm
          simp only [Bool.and_eq_true, decide_eq_true_eq] at hm
          have ha := and31 hm.1.2 hm.2
          simp +contextual only [g2, ha, ↓wA, wB, wZ, repeatV, RX.evs, spl, over, ones, Ex.ends, evR, oneOf, top, ↓reduceIte, Nat.reduceEqDiff, Nat.reduceLeDiff, Nat.reduceAdd, Nat.reduceSub, Nat.reduceMul, reduceCtorEq, Int.reduceEq, Int.reduceLT, Int.reduceLE, Int.reduceNeg, Int.reduceAdd, Int.reduceSub]
          refine callK_pure (itoa_calls (if n < 0 then n + 2147483648 else n) (by split <;> omega) (by split <;> omega) h2) ?_
          obtain ⟨v', h4, q1, q2, q3⟩ := on h2 (Ext.refl _)
          rw [show writtenM 1 n s = Lib.itoa (if n < 0 then n + 2147483648 else n) from rfl] at q1
          simp +contextual only [r4, r8, r9, r10, q1, w, ↓wA, wB, wZ, repeatV, RX.evs, spl, over, ones, Ex.ends, evR, oneOf, top, ↓reduceIte, Nat.reduceEqDiff, Nat.reduceLeDiff, Nat.reduceAdd, Nat.reduceSub, Nat.reduceMul, reduceCtorEq, Int.reduceEq, Int.reduceLT, Int.reduceLE, Int.reduceNeg, Int.reduceAdd, Int.reduceSub]
          exact ⟨⟨i + 1, rfl, hlt, hall2, q2, q3⟩, by omega⟩
        have k1 := eq_false h1
        by_cases h2' : k = 2
        · subst h2'
          simp +contextual only [g2, ↓wA, wB, wZ, repeatV, RX.evs, spl, over, ones, Ex.ends, evR, oneOf, top, ↓reduceIte, Nat.reduceEqDiff, Nat.reduceLeDiff, Nat.reduceAdd, Nat.reduceSub, Nat.reduceMul, reduceCtorEq, Int.reduceEq, Int.reduceLT, Int.reduceLE, Int.reduceNeg, Int.reduceAdd, Int.reduceSub]
          refine callK_intro (quoted_ctr s (by omega) h2) ?_
          rintro x h3 ⟨rfl, hx3⟩
          obtain ⟨v', h4, q1, q2, q3⟩ := on h3 hx3
          rw [show writtenM 2 n s = quotedM s from rfl] at q1
          simp +contextual only [r4, r8, r9, r10, q1, w, ↓wA, wB, wZ, repeatV, RX.evs, spl, over, ones, Ex.ends, evR, oneOf, top, ↓reduceIte, Nat.reduceEqDiff, Nat.reduceLeDiff, Nat.reduceAdd, Nat.reduceSub, Nat.reduceMul, reduceCtorEq, Int.reduceEq, Int.reduceLT, Int.reduceLE, Int.reduceNeg, Int.reduceAdd, Int.reduceSub]
          exact ⟨⟨i + 1, rfl, hlt, hall2, q2, q3⟩, by omega⟩
        have k2 := eq_false h2'
        obtain ⟨v', h4, q1, q2, q3⟩ := on h2 (Ext.refl _)
        by_cases h5 : k = 5
        · subst h5
          have hlt1 : (1 + s.length ≤ 17179869184) = True := eq_true (by omega)
          rw [show writtenM 5 n s = 39 :: s from rfl] at q1
          simp +contextual only [g2, hlt1, List.cons_append, List.nil_append, r4, r8, r9, r10, q1, w, ↓wA, wB, wZ, repeatV, RX.evs, spl, over, ones, Ex.ends, evR, oneOf, top, ↓reduceIte, Nat.reduceEqDiff, Nat.reduceLeDiff, Nat.reduceAdd, Nat.reduceSub, Nat.reduceMul, reduceCtorEq, Int.reduceEq, Int.reduceLT, Int.reduceLE, Int.reduceNeg, Int.reduceAdd, Int.reduceSub]
          exact ⟨⟨i + 1, rfl, hlt, hall2, q2, q3⟩, by omega⟩
        · have k5 := eq_false h5
          rw [show writtenM k n s = s by unfold writtenM; rw [if_neg h1, if_neg h2', if_neg h5]] at q1
          simp +contextual only [g2, k1, k2, k5, r4, r8, r9, r10, q1, w, ↓wA, wB, wZ, repeatV, RX.evs, spl, over, ones, Ex.ends, evR, oneOf, top, ↓reduceIte, Nat.reduceEqDiff, Nat.reduceLeDiff, Nat.reduceAdd, Nat.reduceSub, Nat.reduceMul, reduceCtorEq, Int.reduceEq, Int.reduceLT, Int.reduceLE, Int.reduceNeg, Int.reduceAdd, Int.reduceSub]
          exact ⟨⟨i + 1, rfl, hlt, hall2, q2, q3⟩, by omega⟩
    · have hi' : i = ws.length := by omega
      have g0 : ((i : Int) < (ws.length : Int)) = False := eq_false (by omega)
      rw [hi', List.take_length] at hv hall
      have hw : writeM ws = (Lib.join (ws.map Wi.out) [32], 0) := by unfold writeM; rw [if_pos hall]
      have hlen : (ws.map Wi.out).length = ws.length := List.length_map _
      have hjl : (Lib.join (ws.map Wi.out) [32]).length ≤ 10000000000 := by
        have := join_len 200002 (ws.map Wi.out) (by
          intro x hx
          obtain ⟨q, hq, rfl⟩ := List.mem_map.1 hx
          exact out_len (List.all_eq_true.1 hall _ hq) (ht _ hq))
        rw [hlen] at this
        have h2 : ws.length * 200003 ≤ 10000 * 200003 := Nat.mul_le_mul_right _ hl
        omega
      have hv3 : SlV h' 1 v (ws.map Wi.out).length (strsV (ws.map Wi.out)) := by rw [hlen]; exact hv.v
      simp +contextual only [r4, r8, r9, r10, g0, ↓wA, wB, wZ, repeatV, RX.evs, spl, over, ones, Ex.ends, evR, oneOf, top, ↓reduceIte, Nat.reduceEqDiff, Nat.reduceLeDiff, Nat.reduceAdd, Nat.reduceSub, Nat.reduceMul, reduceCtorEq, Int.reduceEq, Int.reduceLT, Int.reduceLE, Int.reduceNeg, Int.reduceAdd, Int.reduceSub]
      refine callK_pure (join_calls (ws.map Wi.out) [32] v h' hv3 (by omega) hjl) ?_
      rw [hw]
      simp +contextual only [↓wA, wB, wZ, repeatV, RX.evs, spl, over, ones, Ex.ends, evR, oneOf, top, ↓reduceIte, Nat.reduceEqDiff, Nat.reduceLeDiff, Nat.reduceAdd, Nat.reduceSub, Nat.reduceMul, reduceCtorEq, Int.reduceEq, Int.reduceLT, Int.reduceLE, Int.reduceNeg, Int.reduceAdd, Int.reduceSub]
      exact hx
end Go.Proofs.YthcgccnbhdociaaDoor

namespace Go.Proofs.YthcgccnbhdociaaDoor
open Go Am
set_option linter.unusedSectionVars false
set_option linter.unusedSimpArgs false
set_option linter.unusedVariables false

/-! The document's Named and may. -/
end Go.Proofs.YthcgccnbhdociaaDoor

namespace Go.Proofs.YthcgccnbhdociaaDoor
open Go Am
set_option linter.unusedSectionVars false
set_option linter.unusedSimpArgs false
set_option linter.unusedVariables false

/-! The document's Write. -/
end Go.Proofs.YthcgccnbhdociaaDoor
