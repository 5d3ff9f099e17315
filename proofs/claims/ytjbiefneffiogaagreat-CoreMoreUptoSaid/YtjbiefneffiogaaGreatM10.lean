/- The chapter's functions, walked by the abstract machine: plain lemmas, no condition. -/
import Derived.Test.YtjbiefneffiogaaGreatM9
set_option linter.unusedSectionVars false
set_option linter.unusedSimpArgs false
set_option linter.unusedVariables false

namespace Go.Proofs.YtjbiefneffiogaaGreat
open Go Am
theorem bytes_at {h0 : Heap} {l : List UInt8} {v : V} (H : SlV h0 1 v l.length (bytesV l)) {k : IntKind} {i : Nat} (hi : i < l.length) :
    ∃ b off, iaV 1 v (.int k i) = some (.ptr b off) ∧ ∀ h', Ext h0 h' → ld1B (h'.get b) off = some (.int .u8 (((l[i]?).getD 0).toNat : Int)) := by
  obtain ⟨b, off, e1, e2⟩ := H.ia (k := k) hi
  refine ⟨b, _, e1, fun h' e => ?_⟩
  have hb : ∀ (l : List UInt8) (i : Nat) (hi : i < (bytesV l).length), (bytesV l)[i] = .int .u8 (((l[i]?).getD 0).toNat : Int) := by
    intro l
    induction l with
    | nil => intro i hi; simp [bytesV] at hi
    | cons a l ih =>
      intro i hi
      cases i with
      | zero => rfl
      | succ i =>
        have := ih i (by simpa [bytesV] using hi)
        simpa [bytesV] using this
  rw [Nat.mul_one, (e2.ext e).ld1 (by rw [bytesV_len]; exact hi), hb l i]
theorem byteAt_no {S : St} {j0 j1 : Nat} (h : kindsB S [j0, j1] [2, 1] = false) : S.byteAt [j0, j1] = S.trap := by
  simp only [kindsB, Bool.and_true] at h
  simp only [St.byteAt, List.getD_cons_zero, List.getD_cons_succ]
  cases h0 : S.val j0 <;> cases h1 : S.val j1 <;> first | rfl | (rw [h0, h1] at h; simp [kindV] at h)
theorem join_no {S : St} {j0 j1 : Nat} (h : kindsB S [j0, j1] [2, 2] = false) : S.join [j0, j1] = S.trap := by
  simp only [kindsB, Bool.and_true] at h
  simp only [St.join, List.getD_cons_zero, List.getD_cons_succ]
  cases h0 : S.val j0 <;> cases h1 : S.val j1 <;> first | rfl | (rw [h0, h1] at h; simp [kindV] at h)
theorem cut_no {S : St} {j0 j1 j2 : Nat} (h : kindsB S [j0, j1, j2] [2, 1, 1] = false) : S.cut [j0, j1, j2] = S.trap := by
  simp only [kindsB, Bool.and_true] at h
  simp only [St.cut, List.getD_cons_zero, List.getD_cons_succ]
  cases h0 : S.val j0 <;> cases h1 : S.val j1 <;> cases h2 : S.val j2 <;> first | rfl | (rw [h0, h1, h2] at h; simp [kindV] at h)
section
variable {h0 h h' : Heap} {mb : Pa} {K : Ks} {ad : List Pa} {inp pm : V} {S : St} {steps : Int} {cp ep vw vo : V}
set_option maxHeartbeats 1000000 in
theorem puts_ctr (M : PM h0 h mb K ad inp pm S steps) (O : Ok S) {j0 : Nat} {vl : V} (A : ArgsR h ad [j0] vl) :
    Ctr Tryz.prog 93 [.ptr mb 0, vl] h fun x h' => ∃ K' ad', PM h0 h' mb K' ad' inp pm (S.text1 [j0] fun t => { S with out := S.out ++ t }.tellsV (.thing 0 [])) steps := by
  obtain ⟨_, _, _, _, M⟩ := M
  have e1 : Ext h (h.new (.ofL [.int .i64 2] 0 false)) := (Ext.refl h).new _
  have Hk : SlV (h.new (.ofL [.int .i64 2] 0 false)) 1 (.slice (pa h.next) 0 1 1) 1 (intsV [2]) := ints_new h [2]
  have M1 := M.ext e1
  have A1 := A.ext e1
  refine c93_ctr rfl (wpK_of ?_)
  unfold c93
  simp +contextual only [↓wA, wC, Ex.ends, evR, oneOf, top, ↓reduceIte, Nat.reduceEqDiff, Nat.reduceLeDiff, Nat.reduceAdd, Nat.reduceSub, Nat.reduceMul, reduceCtorEq, Int.reduceEq, Int.reduceLT, Int.reduceLE, Int.reduceNeg]
  refine callK_intro (kinds_ctr ⟨_, _, _, _, M1⟩ A1 (ks := [2]) Hk (Nat.le_refl _) (by decide)) ?_
  rintro x h2 ⟨rfl, k1, k2⟩
  cases hk : kindsB S [j0] [2] with
  | false =>
    simp +contextual only [↓wA, wC, Ex.ends, evR, oneOf, top, ↓reduceIte, Nat.reduceEqDiff, Nat.reduceLeDiff, Nat.reduceAdd, Nat.reduceSub, Nat.reduceMul, reduceCtorEq, Int.reduceEq, Int.reduceLT, Int.reduceLE, Int.reduceNeg]
    rw [text1_no hk]
    exact ⟨_, _, k2 hk⟩
  | true =>
    obtain rfl := k1 hk
    clear k1 k2 Hk
    generalize h.new (.ofL [.int .i64 2] 0 false) = H1 at *
    simp only [kindsB, Bool.and_true, Bool.and_eq_true, decide_eq_true_eq] at hk
    have E := M1.rep.ext
    obtain ⟨a0, ha0⟩ := kind_text hk
    obtain ⟨hj0, b0, o0, fl0, _, _, ia0, _, ld0⟩ := M1.arg A1 0 0 j0 rfl rfl
    rw [ha0] at ld0
    simp only [kindV, numV, strV] at ld0
    have l0 := ld0 _ (Ext.refl _)
    have gm := M1.get
    have hno := O.out
    have hto := O.texts _ _ ha0
    have hfr : h0.next ≤ H1.next := E.next
    obtain ⟨v', h3, p1, p2, p3, p5⟩ := app_str a0 M1.ou.1 hfr (by unfold top; omega)
    have p2' : SlO h0.next h3 1 v' (S.out ++ a0).length (bytesV (S.out ++ a0)) := by
      rw [bytesV_append, List.length_append]; exact p2
    obtain ⟨K3, M3⟩ := M1.wrote p2' p3 p5
    have gm3 : h3.get mb = _ := (M1.get_wrote p3).trans gm
    have ow := p2.v.one
    simp +contextual only [ask_cvi, gm, gm3, ia0, l0.1, l0.2, p1, ow.1, ow.2.1, ↓wA, wC, Ex.ends, evR, oneOf, top, ↓reduceIte, Nat.reduceEqDiff, Nat.reduceLeDiff, Nat.reduceAdd, Nat.reduceSub, Nat.reduceMul, reduceCtorEq, Int.reduceEq, Int.reduceLT, Int.reduceLE, Int.reduceNeg]
    refine callK_intro (thing_ctr _ 0 .nilslice ⟨rfl, rfl, rfl⟩) ?_
    rintro x h4 F
    obtain ⟨K', ad', M4, rfl, hn, t⟩ := M3.make (v := .thing 0 []) F rfl
    simp +contextual only [↓wA, wC, Ex.ends, evR, oneOf, top, ↓reduceIte, Nat.reduceEqDiff, Nat.reduceLeDiff, Nat.reduceAdd, Nat.reduceSub, Nat.reduceMul, reduceCtorEq, Int.reduceEq, Int.reduceLT, Int.reduceLE, Int.reduceNeg]
    refine callK_intro (tells_ctr ⟨_, _, _, _, M4⟩ O.w hn) ?_
    rintro x h5 ⟨K5, M5⟩
    simp +contextual only [↓wA, wC, Ex.ends, evR, oneOf, top, ↓reduceIte, Nat.reduceEqDiff, Nat.reduceLeDiff, Nat.reduceAdd, Nat.reduceSub, Nat.reduceMul, reduceCtorEq, Int.reduceEq, Int.reduceLT, Int.reduceLE, Int.reduceNeg]
    refine ⟨K5, ad', ?_⟩
    simp only [St.text1, List.getD_cons_zero, ha0]
    exact M5
set_option maxHeartbeats 1000000 in
theorem getc_ctr (M : PM h0 h mb K ad inp pm S steps) (O : Ok S) {inpl : List UInt8} (Hin : SlV h0 1 inp inpl.length (bytesV inpl)) (hlen : inpl.length ≤ 1073741824) (hrd : S.read ≤ inpl.length) {vl : V} :
    Ctr Tryz.prog 91 [.ptr mb 0, vl] h fun x h' => ∃ K' ad', PM h0 h' mb K' ad' inp pm (S.getc inpl) steps := by
  obtain ⟨_, _, _, _, M⟩ := M
  have gm := M.get
  have hl := Hin.len
  have oi := Hin.one
  refine c91_ctr rfl (wpK_of ?_)
  unfold c91
  by_cases hr : inpl.length ≤ S.read
  · have hr' : ((inpl.length : Int) ≤ (S.read : Int)) = True := eq_true (by omega)
    simp +contextual only [gm, hl, hr', ↓wA, wC, Ex.ends, evR, oneOf, top, ↓reduceIte, Nat.reduceEqDiff, Nat.reduceLeDiff, Nat.reduceAdd, Nat.reduceSub, Nat.reduceMul, reduceCtorEq, Int.reduceEq, Int.reduceLT, Int.reduceLE, Int.reduceNeg]
    refine callK_intro (num_ctr h (-1)) ?_
    rintro x h3 F
    obtain ⟨K', ad', M3, rfl, hn, t⟩ := M.make (v := .int (-1)) F rfl
    simp +contextual only [↓wA, wC, Ex.ends, evR, oneOf, top, ↓reduceIte, Nat.reduceEqDiff, Nat.reduceLeDiff, Nat.reduceAdd, Nat.reduceSub, Nat.reduceMul, reduceCtorEq, Int.reduceEq, Int.reduceLT, Int.reduceLE, Int.reduceNeg]
    refine callK_intro (tells_ctr ⟨_, _, _, _, M3⟩ O.w hn) ?_
    rintro x h4 ⟨K4, M4⟩
    simp +contextual only [↓wA, wC, Ex.ends, evR, oneOf, top, ↓reduceIte, Nat.reduceEqDiff, Nat.reduceLeDiff, Nat.reduceAdd, Nat.reduceSub, Nat.reduceMul, reduceCtorEq, Int.reduceEq, Int.reduceLT, Int.reduceLE, Int.reduceNeg]
    refine ⟨K4, ad', ?_⟩
    simp only [St.getc, if_pos hr]
    exact M4
  · have hr' : ((inpl.length : Int) ≤ (S.read : Int)) = False := eq_false (by omega)
    have w1 : IntKind.i64.wrap ((S.read : Int) + 1) = ((S.read + 1 : Nat) : Int) := by rw [wrap_i64 (by omega) (by omega)]; rfl
    have w2 : IntKind.i64.wrap (((S.read + 1 : Nat) : Int) - 1) = (S.read : Int) := by rw [wrap_i64 (by omega) (by omega)]; omega
    have M1 := M.next { S with read := S.read + 1 } steps _ _ _ _ rfl M.co M.er M.wr M.ou
    have gm1 := M1.get
    obtain ⟨b, o, ia, ld⟩ := bytes_at Hin (k := .i64) (i := S.read) (by omega)
    have hby := (inpl[S.read]?.getD 0).toNat_lt
    have w3 : IntKind.i64.wrap (((inpl[S.read]?.getD 0).toNat : Nat) : Int) = (((inpl[S.read]?.getD 0).toNat : Nat) : Int) := wrap_i64 (by omega) (by omega)
    have ld1 := ld _ M1.rep.ext
    simp only [get_set] at ld1
    simp +contextual only [gm, gm1, hl, hr', w1, w2, w3, ia, ld1, oi.1, oi.2.1, ↓wA, wC, Ex.ends, evR, oneOf, top, ↓reduceIte, Nat.reduceEqDiff, Nat.reduceLeDiff, Nat.reduceAdd, Nat.reduceSub, Nat.reduceMul, reduceCtorEq, Int.reduceEq, Int.reduceLT, Int.reduceLE, Int.reduceNeg]
    refine callK_intro (num_ctr _ (((inpl[S.read]?.getD 0).toNat : Nat) : Int)) ?_
    rintro x h3 F
    obtain ⟨K', ad', M3, rfl, hn, t⟩ := M1.make (v := .int (((inpl[S.read]?.getD 0).toNat : Nat) : Int)) F rfl
    have gm3 := M3.get
    have ld3 := ld _ M3.rep.ext
    simp +contextual only [ask_cvi, gm, gm1, gm3, hl, hr', w1, w2, w3, ia, ld1, ld3, oi.1, oi.2.1, ↓wA, wC, Ex.ends, evR, oneOf, top, ↓reduceIte, Nat.reduceEqDiff, Nat.reduceLeDiff, Nat.reduceAdd, Nat.reduceSub, Nat.reduceMul, reduceCtorEq, Int.reduceEq, Int.reduceLT, Int.reduceLE, Int.reduceNeg]
    refine callK_intro (tells_ctr ⟨_, _, _, _, M3⟩ O.w hn) ?_
    rintro x h4 ⟨K4, M4⟩
    simp +contextual only [ask_cvi, gm, gm1, gm3, hl, hr', w1, w2, w3, ia, ld1, ld3, oi.1, oi.2.1, ↓wA, wC, Ex.ends, evR, oneOf, top, ↓reduceIte, Nat.reduceEqDiff, Nat.reduceLeDiff, Nat.reduceAdd, Nat.reduceSub, Nat.reduceMul, reduceCtorEq, Int.reduceEq, Int.reduceLT, Int.reduceLE, Int.reduceNeg]
    refine ⟨K4, ad', ?_⟩
    simp only [St.getc, if_neg hr]
    exact M4
set_option maxHeartbeats 1000000 in
theorem byteAt_ctr (M : PM h0 h mb K ad inp pm S steps) (O : Ok S) {j0 j1 : Nat} {vl : V} (A : ArgsR h ad [j0, j1] vl) :
    Ctr Tryz.prog 96 [.ptr mb 0, vl] h fun x h' => ∃ K' ad', PM h0 h' mb K' ad' inp pm (S.byteAt [j0, j1]) steps := by
  obtain ⟨_, _, _, _, M⟩ := M
  have e1 : Ext h (h.new (.ofL [.int .i64 2, .int .i64 1] 0 false)) := (Ext.refl h).new _
  have Hk : SlV (h.new (.ofL [.int .i64 2, .int .i64 1] 0 false)) 1 (.slice (pa h.next) 0 2 2) 2 (intsV [2, 1]) := ints_new h [2, 1]
  have M1 := M.ext e1
  have A1 := A.ext e1
  refine c96_ctr rfl (wpK_of ?_)
  unfold c96
  simp +contextual only [↓wA, wC, Ex.ends, evR, oneOf, top, ↓reduceIte, Nat.reduceEqDiff, Nat.reduceLeDiff, Nat.reduceAdd, Nat.reduceSub, Nat.reduceMul, reduceCtorEq, Int.reduceEq, Int.reduceLT, Int.reduceLE, Int.reduceNeg]
  refine callK_intro (kinds_ctr ⟨_, _, _, _, M1⟩ A1 (ks := [2, 1]) Hk (Nat.le_refl _) (by decide)) ?_
  rintro x h2 ⟨rfl, k1, k2⟩
  cases hk : kindsB S [j0, j1] [2, 1] with
  | false =>
    simp +contextual only [↓wA, wC, Ex.ends, evR, oneOf, top, ↓reduceIte, Nat.reduceEqDiff, Nat.reduceLeDiff, Nat.reduceAdd, Nat.reduceSub, Nat.reduceMul, reduceCtorEq, Int.reduceEq, Int.reduceLT, Int.reduceLE, Int.reduceNeg]
    rw [byteAt_no hk]
    exact ⟨_, _, k2 hk⟩
  | true =>
    obtain rfl := k1 hk
    clear k1 k2 Hk
    generalize h.new (.ofL [.int .i64 2, .int .i64 1] 0 false) = H1 at *
    simp only [kindsB, Bool.and_true, Bool.and_eq_true, decide_eq_true_eq] at hk
    have E := M1.rep.ext
    obtain ⟨a0, ha0⟩ := kind_text hk.1
    obtain ⟨hj0, b0, o0, fl0, _, _, ia0, _, ld0⟩ := M1.arg A1 0 0 j0 rfl rfl
    rw [ha0] at ld0
    simp only [kindV, numV, strV] at ld0
    have l0 := ld0 _ (Ext.refl _)
    obtain ⟨a1, ha1⟩ := kind_int hk.2
    obtain ⟨hj1, b1, o1, fl1, _, _, ia1, _, ld1⟩ := M1.arg A1 1 1 j1 rfl rfl
    rw [ha1] at ld1
    simp only [kindV, numV, strV] at ld1
    have l1 := ld1 _ (Ext.refl _)
    have hto := O.texts _ _ ha0
    have hio := O.ints _ _ ha1
    by_cases hz : a1 < 0
    · have hz' := eq_true hz
      simp +contextual only [ia0, ia1, l0.1, l1.1, l0.2, l1.2, hz', ↓wA, wC, Ex.ends, evR, oneOf, top, ↓reduceIte, Nat.reduceEqDiff, Nat.reduceLeDiff, Nat.reduceAdd, Nat.reduceSub, Nat.reduceMul, reduceCtorEq, Int.reduceEq, Int.reduceLT, Int.reduceLE, Int.reduceNeg]
      refine callK_intro (thing_ctr H1 2 .nilslice ⟨rfl, rfl, rfl⟩) ?_
      rintro x h3 F
      obtain ⟨K', ad', M3, rfl, hn, t⟩ := M1.make (v := .thing 2 []) F rfl
      simp +contextual only [↓wA, wC, Ex.ends, evR, oneOf, top, ↓reduceIte, Nat.reduceEqDiff, Nat.reduceLeDiff, Nat.reduceAdd, Nat.reduceSub, Nat.reduceMul, reduceCtorEq, Int.reduceEq, Int.reduceLT, Int.reduceLE, Int.reduceNeg]
      refine callK_intro (raises_ctr ⟨_, _, _, _, M3⟩ O.w hn) ?_
      rintro x h4 ⟨K4, M4⟩
      simp +contextual only [↓wA, wC, Ex.ends, evR, oneOf, top, ↓reduceIte, Nat.reduceEqDiff, Nat.reduceLeDiff, Nat.reduceAdd, Nat.reduceSub, Nat.reduceMul, reduceCtorEq, Int.reduceEq, Int.reduceLT, Int.reduceLE, Int.reduceNeg]
      refine ⟨K4, ad', ?_⟩
      simp only [St.byteAt, List.getD_cons_zero, List.getD_cons_succ, ha0, ha1]
      rw [if_neg (by omega)]
      exact M4
    have hz' := eq_false hz
    by_cases hy : (a0.length : Int) ≤ a1
    · have hy' := eq_true hy
      simp +contextual only [ia0, ia1, l0.1, l1.1, l0.2, l1.2, hz', hy', ↓wA, wC, Ex.ends, evR, oneOf, top, ↓reduceIte, Nat.reduceEqDiff, Nat.reduceLeDiff, Nat.reduceAdd, Nat.reduceSub, Nat.reduceMul, reduceCtorEq, Int.reduceEq, Int.reduceLT, Int.reduceLE, Int.reduceNeg]
      refine callK_intro (thing_ctr H1 2 .nilslice ⟨rfl, rfl, rfl⟩) ?_
      rintro x h3 F
      obtain ⟨K', ad', M3, rfl, hn, t⟩ := M1.make (v := .thing 2 []) F rfl
      simp +contextual only [↓wA, wC, Ex.ends, evR, oneOf, top, ↓reduceIte, Nat.reduceEqDiff, Nat.reduceLeDiff, Nat.reduceAdd, Nat.reduceSub, Nat.reduceMul, reduceCtorEq, Int.reduceEq, Int.reduceLT, Int.reduceLE, Int.reduceNeg]
      refine callK_intro (raises_ctr ⟨_, _, _, _, M3⟩ O.w hn) ?_
      rintro x h4 ⟨K4, M4⟩
      simp +contextual only [↓wA, wC, Ex.ends, evR, oneOf, top, ↓reduceIte, Nat.reduceEqDiff, Nat.reduceLeDiff, Nat.reduceAdd, Nat.reduceSub, Nat.reduceMul, reduceCtorEq, Int.reduceEq, Int.reduceLT, Int.reduceLE, Int.reduceNeg]
      refine ⟨K4, ad', ?_⟩
      simp only [St.byteAt, List.getD_cons_zero, List.getD_cons_succ, ha0, ha1]
      rw [if_neg (by omega)]
      exact M4
    have hy' := eq_false hy
    have ix : indexStr.run (.str a0) (.int .i64 a1) = some (.int .u8 (((a0[a1.toNat]?).getD 0).toNat : Int)) := by rw [s_ix, if_pos (by omega)]
    have hby := (a0[a1.toNat]?.getD 0).toNat_lt
    have w3 : IntKind.i64.wrap (((a0[a1.toNat]?.getD 0).toNat : Nat) : Int) = (((a0[a1.toNat]?.getD 0).toNat : Nat) : Int) := wrap_i64 (by omega) (by omega)
    simp +contextual only [ia0, ia1, l0.1, l1.1, l0.2, l1.2, hz', hy', ix, w3, ↓wA, wC, Ex.ends, evR, oneOf, top, ↓reduceIte, Nat.reduceEqDiff, Nat.reduceLeDiff, Nat.reduceAdd, Nat.reduceSub, Nat.reduceMul, reduceCtorEq, Int.reduceEq, Int.reduceLT, Int.reduceLE, Int.reduceNeg]
    refine callK_intro (num_ctr H1 (((a0[a1.toNat]?.getD 0).toNat : Nat) : Int)) ?_
    rintro x h3 F
    obtain ⟨K', ad', M3, rfl, hn, t⟩ := M1.make (v := .int (((a0[a1.toNat]?.getD 0).toNat : Nat) : Int)) F rfl
    obtain ⟨_, _, e3, _⟩ := F
    have l0' := ld0 _ e3
    have l1' := ld1 _ e3
    simp +contextual only [ask_cvi, ia0, ia1, l0.1, l1.1, l0.2, l1.2, l0'.1, l1'.1, l0'.2, l1'.2, hz', hy', ix, w3, ↓wA, wC, Ex.ends, evR, oneOf, top, ↓reduceIte, Nat.reduceEqDiff, Nat.reduceLeDiff, Nat.reduceAdd, Nat.reduceSub, Nat.reduceMul, reduceCtorEq, Int.reduceEq, Int.reduceLT, Int.reduceLE, Int.reduceNeg]
    refine callK_intro (tells_ctr ⟨_, _, _, _, M3⟩ O.w hn) ?_
    rintro x h4 ⟨K4, M4⟩
    simp +contextual only [ask_cvi, ia0, ia1, l0.1, l1.1, l0.2, l1.2, l0'.1, l1'.1, l0'.2, l1'.2, hz', hy', ix, w3, ↓wA, wC, Ex.ends, evR, oneOf, top, ↓reduceIte, Nat.reduceEqDiff, Nat.reduceLeDiff, Nat.reduceAdd, Nat.reduceSub, Nat.reduceMul, reduceCtorEq, Int.reduceEq, Int.reduceLT, Int.reduceLE, Int.reduceNeg]
    refine ⟨K4, ad', ?_⟩
    simp only [St.byteAt, List.getD_cons_zero, List.getD_cons_succ, ha0, ha1]
    rw [if_pos (by omega)]
    exact M4
set_option maxHeartbeats 1000000 in
theorem cut_ctr (M : PM h0 h mb K ad inp pm S steps) (O : Ok S) {j0 j1 j2 : Nat} {vl : V} (A : ArgsR h ad [j0, j1, j2] vl) :
    Ctr Tryz.prog 97 [.ptr mb 0, vl] h fun x h' => ∃ K' ad', PM h0 h' mb K' ad' inp pm (S.cut [j0, j1, j2]) steps := by
  obtain ⟨_, _, _, _, M⟩ := M
  have e1 : Ext h (h.new (.ofL [.int .i64 2, .int .i64 1, .int .i64 1] 0 false)) := (Ext.refl h).new _
  have Hk : SlV (h.new (.ofL [.int .i64 2, .int .i64 1, .int .i64 1] 0 false)) 1 (.slice (pa h.next) 0 3 3) 3 (intsV [2, 1, 1]) := ints_new h [2, 1, 1]
  have M1 := M.ext e1
  have A1 := A.ext e1
  refine c97_ctr rfl (wpK_of ?_)
  unfold c97
  simp +contextual only [↓wA, wC, Ex.ends, evR, oneOf, top, ↓reduceIte, Nat.reduceEqDiff, Nat.reduceLeDiff, Nat.reduceAdd, Nat.reduceSub, Nat.reduceMul, reduceCtorEq, Int.reduceEq, Int.reduceLT, Int.reduceLE, Int.reduceNeg]
  refine callK_intro (kinds_ctr ⟨_, _, _, _, M1⟩ A1 (ks := [2, 1, 1]) Hk (Nat.le_refl _) (by decide)) ?_
  rintro x h2 ⟨rfl, k1, k2⟩
  cases hk : kindsB S [j0, j1, j2] [2, 1, 1] with
  | false =>
    simp +contextual only [↓wA, wC, Ex.ends, evR, oneOf, top, ↓reduceIte, Nat.reduceEqDiff, Nat.reduceLeDiff, Nat.reduceAdd, Nat.reduceSub, Nat.reduceMul, reduceCtorEq, Int.reduceEq, Int.reduceLT, Int.reduceLE, Int.reduceNeg]
    rw [cut_no hk]
    exact ⟨_, _, k2 hk⟩
  | true =>
    obtain rfl := k1 hk
    clear k1 k2 Hk
    generalize h.new (.ofL [.int .i64 2, .int .i64 1, .int .i64 1] 0 false) = H1 at *
    simp only [kindsB, Bool.and_true, Bool.and_eq_true, decide_eq_true_eq] at hk
    have E := M1.rep.ext
    obtain ⟨a0, ha0⟩ := kind_text hk.1
    obtain ⟨hj0, b0, o0, fl0, _, _, ia0, _, ld0⟩ := M1.arg A1 0 0 j0 rfl rfl
    rw [ha0] at ld0
    simp only [kindV, numV, strV] at ld0
    have l0 := ld0 _ (Ext.refl _)
    obtain ⟨a1, ha1⟩ := kind_int hk.2.1
    obtain ⟨hj1, b1, o1, fl1, _, _, ia1, _, ld1⟩ := M1.arg A1 1 1 j1 rfl rfl
    rw [ha1] at ld1
    simp only [kindV, numV, strV] at ld1
    have l1 := ld1 _ (Ext.refl _)
    obtain ⟨a2, ha2⟩ := kind_int hk.2.2
    obtain ⟨hj2, b2, o2, fl2, _, _, ia2, _, ld2⟩ := M1.arg A1 2 2 j2 rfl rfl
    rw [ha2] at ld2
    simp only [kindV, numV, strV] at ld2
    have l2 := ld2 _ (Ext.refl _)
    have hto := O.texts _ _ ha0
    have hio := O.ints _ _ ha1
    have hno := O.ints _ _ ha2
    by_cases hz : a1 < 0
    · have hz' := eq_true hz
      simp +contextual only [ia0, ia1, ia2, l0.1, l1.1, l2.1, l0.2, l1.2, l2.2, hz', ↓wA, wC, Ex.ends, evR, oneOf, top, ↓reduceIte, Nat.reduceEqDiff, Nat.reduceLeDiff, Nat.reduceAdd, Nat.reduceSub, Nat.reduceMul, reduceCtorEq, Int.reduceEq, Int.reduceLT, Int.reduceLE, Int.reduceNeg]
      refine callK_intro (thing_ctr H1 2 .nilslice ⟨rfl, rfl, rfl⟩) ?_
      rintro x h3 F
      obtain ⟨K', ad', M3, rfl, hn, t⟩ := M1.make (v := .thing 2 []) F rfl
      simp +contextual only [↓wA, wC, Ex.ends, evR, oneOf, top, ↓reduceIte, Nat.reduceEqDiff, Nat.reduceLeDiff, Nat.reduceAdd, Nat.reduceSub, Nat.reduceMul, reduceCtorEq, Int.reduceEq, Int.reduceLT, Int.reduceLE, Int.reduceNeg]
      refine callK_intro (raises_ctr ⟨_, _, _, _, M3⟩ O.w hn) ?_
      rintro x h4 ⟨K4, M4⟩
      simp +contextual only [↓wA, wC, Ex.ends, evR, oneOf, top, ↓reduceIte, Nat.reduceEqDiff, Nat.reduceLeDiff, Nat.reduceAdd, Nat.reduceSub, Nat.reduceMul, reduceCtorEq, Int.reduceEq, Int.reduceLT, Int.reduceLE, Int.reduceNeg]
      refine ⟨K4, ad', ?_⟩
      simp only [St.cut, List.getD_cons_zero, List.getD_cons_succ, ha0, ha1, ha2]
      rw [if_neg (by omega)]
      exact M4
    have hz' := eq_false hz
    by_cases hy : a2 < 0
    · have hy' := eq_true hy
      simp +contextual only [ia0, ia1, ia2, l0.1, l1.1, l2.1, l0.2, l1.2, l2.2, hz', hy', ↓wA, wC, Ex.ends, evR, oneOf, top, ↓reduceIte, Nat.reduceEqDiff, Nat.reduceLeDiff, Nat.reduceAdd, Nat.reduceSub, Nat.reduceMul, reduceCtorEq, Int.reduceEq, Int.reduceLT, Int.reduceLE, Int.reduceNeg]
      refine callK_intro (thing_ctr H1 2 .nilslice ⟨rfl, rfl, rfl⟩) ?_
      rintro x h3 F
      obtain ⟨K', ad', M3, rfl, hn, t⟩ := M1.make (v := .thing 2 []) F rfl
      simp +contextual only [↓wA, wC, Ex.ends, evR, oneOf, top, ↓reduceIte, Nat.reduceEqDiff, Nat.reduceLeDiff, Nat.reduceAdd, Nat.reduceSub, Nat.reduceMul, reduceCtorEq, Int.reduceEq, Int.reduceLT, Int.reduceLE, Int.reduceNeg]
      refine callK_intro (raises_ctr ⟨_, _, _, _, M3⟩ O.w hn) ?_
      rintro x h4 ⟨K4, M4⟩
      simp +contextual only [↓wA, wC, Ex.ends, evR, oneOf, top, ↓reduceIte, Nat.reduceEqDiff, Nat.reduceLeDiff, Nat.reduceAdd, Nat.reduceSub, Nat.reduceMul, reduceCtorEq, Int.reduceEq, Int.reduceLT, Int.reduceLE, Int.reduceNeg]
      refine ⟨K4, ad', ?_⟩
      simp only [St.cut, List.getD_cons_zero, List.getD_cons_succ, ha0, ha1, ha2]
      rw [if_neg (by omega)]
      exact M4
    have hy' := eq_false hy
    by_cases hx : (a0.length : Int) < a1
    · have hx' := eq_true hx
      simp +contextual only [ia0, ia1, ia2, l0.1, l1.1, l2.1, l0.2, l1.2, l2.2, hz', hy', hx', ↓wA, wC, Ex.ends, evR, oneOf, top, ↓reduceIte, Nat.reduceEqDiff, Nat.reduceLeDiff, Nat.reduceAdd, Nat.reduceSub, Nat.reduceMul, reduceCtorEq, Int.reduceEq, Int.reduceLT, Int.reduceLE, Int.reduceNeg]
      refine callK_intro (thing_ctr H1 2 .nilslice ⟨rfl, rfl, rfl⟩) ?_
      rintro x h3 F
      obtain ⟨K', ad', M3, rfl, hn, t⟩ := M1.make (v := .thing 2 []) F rfl
      simp +contextual only [↓wA, wC, Ex.ends, evR, oneOf, top, ↓reduceIte, Nat.reduceEqDiff, Nat.reduceLeDiff, Nat.reduceAdd, Nat.reduceSub, Nat.reduceMul, reduceCtorEq, Int.reduceEq, Int.reduceLT, Int.reduceLE, Int.reduceNeg]
      refine callK_intro (raises_ctr ⟨_, _, _, _, M3⟩ O.w hn) ?_
      rintro x h4 ⟨K4, M4⟩
      simp +contextual only [↓wA, wC, Ex.ends, evR, oneOf, top, ↓reduceIte, Nat.reduceEqDiff, Nat.reduceLeDiff, Nat.reduceAdd, Nat.reduceSub, Nat.reduceMul, reduceCtorEq, Int.reduceEq, Int.reduceLT, Int.reduceLE, Int.reduceNeg]
      refine ⟨K4, ad', ?_⟩
      simp only [St.cut, List.getD_cons_zero, List.getD_cons_succ, ha0, ha1, ha2]
      rw [if_neg (by omega)]
      exact M4
    have hx' := eq_false hx
    have w1 : IntKind.i64.wrap ((a0.length : Int) - a1) = (a0.length : Int) - a1 := wrap_i64 (by omega) (by omega)
    have w2 : IntKind.i64.wrap (a1 + a2) = a1 + a2 := wrap_i64 (by omega) (by omega)
    by_cases hu : (a0.length : Int) - a1 < a2
    · have hu' := eq_true hu
      simp +contextual only [ia0, ia1, ia2, l0.1, l1.1, l2.1, l0.2, l1.2, l2.2, hz', hy', hx', w1, hu', ↓wA, wC, Ex.ends, evR, oneOf, top, ↓reduceIte, Nat.reduceEqDiff, Nat.reduceLeDiff, Nat.reduceAdd, Nat.reduceSub, Nat.reduceMul, reduceCtorEq, Int.reduceEq, Int.reduceLT, Int.reduceLE, Int.reduceNeg]
      refine callK_intro (thing_ctr H1 2 .nilslice ⟨rfl, rfl, rfl⟩) ?_
      rintro x h3 F
      obtain ⟨K', ad', M3, rfl, hn, t⟩ := M1.make (v := .thing 2 []) F rfl
      simp +contextual only [↓wA, wC, Ex.ends, evR, oneOf, top, ↓reduceIte, Nat.reduceEqDiff, Nat.reduceLeDiff, Nat.reduceAdd, Nat.reduceSub, Nat.reduceMul, reduceCtorEq, Int.reduceEq, Int.reduceLT, Int.reduceLE, Int.reduceNeg]
      refine callK_intro (raises_ctr ⟨_, _, _, _, M3⟩ O.w hn) ?_
      rintro x h4 ⟨K4, M4⟩
      simp +contextual only [↓wA, wC, Ex.ends, evR, oneOf, top, ↓reduceIte, Nat.reduceEqDiff, Nat.reduceLeDiff, Nat.reduceAdd, Nat.reduceSub, Nat.reduceMul, reduceCtorEq, Int.reduceEq, Int.reduceLT, Int.reduceLE, Int.reduceNeg]
      refine ⟨K4, ad', ?_⟩
      simp only [St.cut, List.getD_cons_zero, List.getD_cons_succ, ha0, ha1, ha2]
      rw [if_neg (by omega)]
      exact M4
    have hu' := eq_false hu
    have sl : sliceStr (.str a0) (some (.int .i64 a1)) (some (.int .i64 (a1 + a2))) none = some (.str ((a0.drop a1.toNat).take a2.toNat)) := by
      rw [sl_two, if_pos (by omega)]
      congr 4
      omega
    simp +contextual only [ia0, ia1, ia2, l0.1, l1.1, l2.1, l0.2, l1.2, l2.2, hz', hy', hx', w1, w2, hu', sl, ↓wA, wC, Ex.ends, evR, oneOf, top, ↓reduceIte, Nat.reduceEqDiff, Nat.reduceLeDiff, Nat.reduceAdd, Nat.reduceSub, Nat.reduceMul, reduceCtorEq, Int.reduceEq, Int.reduceLT, Int.reduceLE, Int.reduceNeg]
    refine callK_intro (text_ctr H1 ((a0.drop a1.toNat).take a2.toNat)) ?_
    rintro x h3 F
    obtain ⟨K', ad', M3, rfl, hn, t⟩ := M1.make (v := .text ((a0.drop a1.toNat).take a2.toNat)) F rfl
    simp +contextual only [↓wA, wC, Ex.ends, evR, oneOf, top, ↓reduceIte, Nat.reduceEqDiff, Nat.reduceLeDiff, Nat.reduceAdd, Nat.reduceSub, Nat.reduceMul, reduceCtorEq, Int.reduceEq, Int.reduceLT, Int.reduceLE, Int.reduceNeg]
    refine callK_intro (tells_ctr ⟨_, _, _, _, M3⟩ O.w hn) ?_
    rintro x h4 ⟨K4, M4⟩
    simp +contextual only [↓wA, wC, Ex.ends, evR, oneOf, top, ↓reduceIte, Nat.reduceEqDiff, Nat.reduceLeDiff, Nat.reduceAdd, Nat.reduceSub, Nat.reduceMul, reduceCtorEq, Int.reduceEq, Int.reduceLT, Int.reduceLE, Int.reduceNeg]
    refine ⟨K4, ad', ?_⟩
    simp only [St.cut, List.getD_cons_zero, List.getD_cons_succ, ha0, ha1, ha2]
    rw [if_pos (by omega)]
    exact M4
set_option maxHeartbeats 1000000 in
theorem join_ctr (M : PM h0 h mb K ad inp pm S steps) (O : Ok S) {j0 j1 : Nat} {vl : V} (A : ArgsR h ad [j0, j1] vl) :
    Ctr Tryz.prog 98 [.ptr mb 0, vl] h fun x h' => ∃ K' ad', PM h0 h' mb K' ad' inp pm (S.join [j0, j1]) steps := by
  obtain ⟨_, _, _, _, M⟩ := M
  have e1 : Ext h (h.new (.ofL [.int .i64 2, .int .i64 2] 0 false)) := (Ext.refl h).new _
  have Hk : SlV (h.new (.ofL [.int .i64 2, .int .i64 2] 0 false)) 1 (.slice (pa h.next) 0 2 2) 2 (intsV [2, 2]) := ints_new h [2, 2]
  have M1 := M.ext e1
  have A1 := A.ext e1
  refine c98_ctr rfl (wpK_of ?_)
  unfold c98
  simp +contextual only [↓wA, wC, Ex.ends, evR, oneOf, top, ↓reduceIte, Nat.reduceEqDiff, Nat.reduceLeDiff, Nat.reduceAdd, Nat.reduceSub, Nat.reduceMul, reduceCtorEq, Int.reduceEq, Int.reduceLT, Int.reduceLE, Int.reduceNeg]
  refine callK_intro (kinds_ctr ⟨_, _, _, _, M1⟩ A1 (ks := [2, 2]) Hk (Nat.le_refl _) (by decide)) ?_
  rintro x h2 ⟨rfl, k1, k2⟩
  cases hk : kindsB S [j0, j1] [2, 2] with
  | false =>
    simp +contextual only [↓wA, wC, Ex.ends, evR, oneOf, top, ↓reduceIte, Nat.reduceEqDiff, Nat.reduceLeDiff, Nat.reduceAdd, Nat.reduceSub, Nat.reduceMul, reduceCtorEq, Int.reduceEq, Int.reduceLT, Int.reduceLE, Int.reduceNeg]
    rw [join_no hk]
    exact ⟨_, _, k2 hk⟩
  | true =>
    obtain rfl := k1 hk
    clear k1 k2 Hk
    generalize h.new (.ofL [.int .i64 2, .int .i64 2] 0 false) = H1 at *
    simp only [kindsB, Bool.and_true, Bool.and_eq_true, decide_eq_true_eq] at hk
    have E := M1.rep.ext
    obtain ⟨a0, ha0⟩ := kind_text hk.1
    obtain ⟨hj0, b0, o0, fl0, _, _, ia0, _, ld0⟩ := M1.arg A1 0 0 j0 rfl rfl
    rw [ha0] at ld0
    simp only [kindV, numV, strV] at ld0
    have l0 := ld0 _ (Ext.refl _)
    obtain ⟨a1, ha1⟩ := kind_text hk.2
    obtain ⟨hj1, b1, o1, fl1, _, _, ia1, _, ld1⟩ := M1.arg A1 1 1 j1 rfl rfl
    rw [ha1] at ld1
    simp only [kindV, numV, strV] at ld1
    have l1 := ld1 _ (Ext.refl _)
    have hto := O.texts _ _ ha0
    have hio := O.texts _ _ ha1
    have w1 : IntKind.i64.wrap ((a0.length : Int) + (a1.length : Int)) = (a0.length : Int) + (a1.length : Int) := wrap_i64 (by omega) (by omega)
    by_cases hz : 4096 < (a0.length : Int) + (a1.length : Int)
    · have hz' := eq_true hz
      simp +contextual only [ia0, ia1, l0.1, l1.1, l0.2, l1.2, w1, hz', ↓wA, wC, Ex.ends, evR, oneOf, top, ↓reduceIte, Nat.reduceEqDiff, Nat.reduceLeDiff, Nat.reduceAdd, Nat.reduceSub, Nat.reduceMul, reduceCtorEq, Int.reduceEq, Int.reduceLT, Int.reduceLE, Int.reduceNeg]
      refine callK_intro (thing_ctr H1 2 .nilslice ⟨rfl, rfl, rfl⟩) ?_
      rintro x h3 F
      obtain ⟨K', ad', M3, rfl, hn, t⟩ := M1.make (v := .thing 2 []) F rfl
      simp +contextual only [↓wA, wC, Ex.ends, evR, oneOf, top, ↓reduceIte, Nat.reduceEqDiff, Nat.reduceLeDiff, Nat.reduceAdd, Nat.reduceSub, Nat.reduceMul, reduceCtorEq, Int.reduceEq, Int.reduceLT, Int.reduceLE, Int.reduceNeg]
      refine callK_intro (raises_ctr ⟨_, _, _, _, M3⟩ O.w hn) ?_
      rintro x h4 ⟨K4, M4⟩
      simp +contextual only [↓wA, wC, Ex.ends, evR, oneOf, top, ↓reduceIte, Nat.reduceEqDiff, Nat.reduceLeDiff, Nat.reduceAdd, Nat.reduceSub, Nat.reduceMul, reduceCtorEq, Int.reduceEq, Int.reduceLT, Int.reduceLE, Int.reduceNeg]
      refine ⟨K4, ad', ?_⟩
      simp only [St.join, List.getD_cons_zero, List.getD_cons_succ, ha0, ha1]
      rw [if_neg (by omega)]
      exact M4
    have hz' := eq_false hz
    have ad_ : (BK.str .add).run Tryz.prog (.str a0) (.str a1) = some (.str (a0 ++ a1)) := by rw [s_add, if_pos (by unfold top; omega)]
    simp +contextual only [ia0, ia1, l0.1, l1.1, l0.2, l1.2, w1, hz', ad_, ↓wA, wC, Ex.ends, evR, oneOf, top, ↓reduceIte, Nat.reduceEqDiff, Nat.reduceLeDiff, Nat.reduceAdd, Nat.reduceSub, Nat.reduceMul, reduceCtorEq, Int.reduceEq, Int.reduceLT, Int.reduceLE, Int.reduceNeg]
    refine callK_intro (text_ctr H1 (a0 ++ a1)) ?_
    rintro x h3 F
    obtain ⟨K', ad', M3, rfl, hn, t⟩ := M1.make (v := .text (a0 ++ a1)) F rfl
    obtain ⟨_, _, e3, _⟩ := F
    have l0' := ld0 _ e3
    have l1' := ld1 _ e3
    simp +contextual only [ia0, ia1, l0.1, l1.1, l0.2, l1.2, l0'.1, l1'.1, l0'.2, l1'.2, ↓wA, wC, Ex.ends, evR, oneOf, top, ↓reduceIte, Nat.reduceEqDiff, Nat.reduceLeDiff, Nat.reduceAdd, Nat.reduceSub, Nat.reduceMul, reduceCtorEq, Int.reduceEq, Int.reduceLT, Int.reduceLE, Int.reduceNeg]
    refine callK_intro (tells_ctr ⟨_, _, _, _, M3⟩ O.w hn) ?_
    rintro x h4 ⟨K4, M4⟩
    simp +contextual only [ia0, ia1, l0.1, l1.1, l0.2, l1.2, l0'.1, l1'.1, l0'.2, l1'.2, ↓wA, wC, Ex.ends, evR, oneOf, top, ↓reduceIte, Nat.reduceEqDiff, Nat.reduceLeDiff, Nat.reduceAdd, Nat.reduceSub, Nat.reduceMul, reduceCtorEq, Int.reduceEq, Int.reduceLT, Int.reduceLE, Int.reduceNeg]
    refine ⟨K4, ad', ?_⟩
    simp only [St.join, List.getD_cons_zero, List.getD_cons_succ, ha0, ha1]
    rw [if_pos (by omega)]
    exact M4
end
end Go.Proofs.YtjbiefneffiogaaGreat

namespace Go.Proofs.YtjbiefneffiogaaGreat
open Go Am
section
variable {h0 h h' : Heap} {mb : Pa} {K : Ks} {ad : List Pa} {inp pm : V} {S : St} {steps : Int} {cp ep vw vo : V}
set_option maxHeartbeats 1000000 in
theorem set_ctr (M : PM h0 h mb K ad inp pm S steps) (O : Ok S) {j0 j1 : Nat} {vl : V} (A : ArgsR h ad [j0, j1] vl) :
    Ctr Tryz.prog 99 [.ptr mb 0, vl] h fun x h' => ∃ K' ad', PM h0 h' mb K' ad' inp pm (S.set_ [j0, j1]) steps := by
  have M0 := M
  obtain ⟨cq, eq, wq, oq, M⟩ := M
  obtain ⟨hj0, b0, o0, fl0, _, _, ia0, F0, ld0⟩ := M.arg A 0 0 j0 rfl rfl
  obtain ⟨hj1, b1, o1, fl1, _, _, ia1, _, ld1⟩ := M.arg A 1 1 j1 rfl rfl
  have l0 := ld0 _ (Ext.refl _)
  have l1 := ld1 _ (Ext.refl _)
  refine c99_ctr rfl (wpK_of ?_)
  unfold c99
  by_cases hk4 : kindV (S.val j0) = 4
  rotate_left
  · have h4' := eq_false hk4
    simp +contextual only [ia0, ia1, l0.1, l1.1, l0.2, l1.2, h4', ↓wA, wC, Ex.ends, evR, oneOf, top, ↓reduceIte, Nat.reduceEqDiff, Nat.reduceLeDiff, Nat.reduceAdd, Nat.reduceSub, Nat.reduceMul, reduceCtorEq, Int.reduceEq, Int.reduceLT, Int.reduceLE, Int.reduceNeg]
    refine callK_intro (ends_ctr M0 6) ?_
    rintro x h4 M4
    simp +contextual only [↓wA, wC, Ex.ends, evR, oneOf, top, ↓reduceIte, Nat.reduceEqDiff, Nat.reduceLeDiff, Nat.reduceAdd, Nat.reduceSub, Nat.reduceMul, reduceCtorEq, Int.reduceEq, Int.reduceLT, Int.reduceLE, Int.reduceNeg]
    refine ⟨K, ad, ?_⟩
    have : S.set_ [j0, j1] = S.trap := by
      simp only [St.set_, List.getD_cons_zero]
      cases hv : S.val j0 <;> first | rfl | (rw [hv] at hk4; exact absurd rfl hk4)
    rw [this]
    exact M4
  obtain ⟨t, fs, hv⟩ := kind_thing hk4
  rw [hv] at l0 ld0 F0
  simp only [kindV, numV, strV] at l0 ld0
  have hset : S.set_ [j0, j1] = if t = 0 ∧ fs.length = 1 then { S with st := S.st.set j0 (.thing 0 [j1]) }.tellsV (.thing 0 []) else S.trap := by
    simp only [St.set_, List.getD_cons_zero, List.getD_cons_succ, hv]
  by_cases ht : t = 0
  rotate_left
  · have ht' := eq_false ht
    simp +contextual only [ia0, ia1, l0.1, l1.1, l0.2, l1.2, ht', ↓wA, wC, Ex.ends, evR, oneOf, top, ↓reduceIte, Nat.reduceEqDiff, Nat.reduceLeDiff, Nat.reduceAdd, Nat.reduceSub, Nat.reduceMul, reduceCtorEq, Int.reduceEq, Int.reduceLT, Int.reduceLE, Int.reduceNeg]
    refine callK_intro (ends_ctr M0 6) ?_
    rintro x h4 M4
    simp +contextual only [↓wA, wC, Ex.ends, evR, oneOf, top, ↓reduceIte, Nat.reduceEqDiff, Nat.reduceLeDiff, Nat.reduceAdd, Nat.reduceSub, Nat.reduceMul, reduceCtorEq, Int.reduceEq, Int.reduceLT, Int.reduceLE, Int.reduceNeg]
    refine ⟨K, ad, ?_⟩
    rw [hset, if_neg (by omega)]
    exact M4
  subst ht
  obtain ⟨f1, f2, f3⟩ := F0
  have hl := f1.v.len
  by_cases hfs : fs.length = 1
  rotate_left
  · have hfs' : ((fs.length : Int) = 1) = False := eq_false (by omega)
    simp +contextual only [ia0, ia1, l0.1, l1.1, l0.2, l1.2, hl, hfs', ↓wA, wC, Ex.ends, evR, oneOf, top, ↓reduceIte, Nat.reduceEqDiff, Nat.reduceLeDiff, Nat.reduceAdd, Nat.reduceSub, Nat.reduceMul, reduceCtorEq, Int.reduceEq, Int.reduceLT, Int.reduceLE, Int.reduceNeg]
    refine callK_intro (ends_ctr M0 6) ?_
    rintro x h4 M4
    simp +contextual only [↓wA, wC, Ex.ends, evR, oneOf, top, ↓reduceIte, Nat.reduceEqDiff, Nat.reduceLeDiff, Nat.reduceAdd, Nat.reduceSub, Nat.reduceMul, reduceCtorEq, Int.reduceEq, Int.reduceLT, Int.reduceLE, Int.reduceNeg]
    refine ⟨K, ad, ?_⟩
    rw [hset, if_neg (by omega)]
    exact M4
  rw [hfs] at hl f1
  obtain ⟨fb, fo, e1, e2, e3⟩ := f1.v.ia' (k := .i64) (i := 0) (by decide)
  have hat := at_ia f1.v (k := .i64) (i := 0) (by decide) e1
  have e1' : iaV 1 fl0 (.int .i64 0) = some (.ptr fb fo) := by simpa using e1
  obtain ⟨k, p1, _, p3, p4⟩ := f1.putc hat (c := 0) (by simp [hfs]) (y := ptrA ad j1) rfl rfl
  rw [Nat.add_zero] at p1
  have p1' : layB 1 h fb fo (.ptr (blkOf ad j1) 0) (h.get fb) = some (h.set fb k) := p1
  have z1 : ((((1 : Nat) : Int)) = 1) = True := eq_true rfl
  have q4 := f2 fb e3
  have t : Tr h0 K h ad K (h.set fb k) ad (· = .fld j0) := Tr.of_set q4 (f1.base e3)
  have hjs : j0 < S.st.length := by rw [← M.rep.len]; exact hj0
  have hvs : (fs.map (ptrA ad)).set 0 (ptrA ad j1) = [j1].map (ptrA ad) := by
    match fs, hfs with
    | [a], _ => rfl
  rw [hvs] at p3
  have gne : blkOf ad j0 ≠ fb := fun q => by
    obtain ⟨_, _, _, _, kk, _⟩ := M.val hj0
    rw [q, q4] at kk; cases kk
  obtain ⟨_, _, _, _, kk, _⟩ := M.val hj0
  have M1 : PMach h0 (h.set fb k) mb K ad inp pm { S with st := S.st.set j0 (.thing 0 [j1]) } steps cq eq wq oq := by
    have hmb : K mb ≠ .no := by rw [M.km]; simp
    refine ⟨M.rep.turn (i := j0) (v := .thing 0 [j1]) t (by simp) (by intro j hj; simpa using hj) (by simp) ?_, M.km, ?_, M.co, M.er.tr t (by simp), M.wr.tr t (by simp) (by simp), M.ou.tr t (by simp)⟩
    · exact ⟨kk, fl0, .nilptr, _, by rw [t.get _ (by rw [kk]; simp) (by rw [kk]; simp)]; obtain ⟨_, fl', ep', cs', g', v', _⟩ := M.rep.val j0 _ (St.val_get hjs); rw [hv] at v'; have := ofL_inj (l0.2.symm.trans g'); cases v'; simp only [List.cons.injEq, true_and, and_true] at this; rw [l0.2, this.2.1, this.2.2], rfl, ⟨p3, f2, by simpa using hj1⟩, trivial⟩
    · rw [t.get mb hmb (by rw [M.km]; simp)]; exact M.get
  simp +contextual only [ia0, ia1, l0.1, l1.1, l0.2, l1.2, hl, z1, e1', p1', ↓wA, wC, Ex.ends, evR, oneOf, top, ↓reduceIte, Nat.reduceEqDiff, Nat.reduceLeDiff, Nat.reduceAdd, Nat.reduceSub, Nat.reduceMul, reduceCtorEq, Int.reduceEq, Int.reduceLT, Int.reduceLE, Int.reduceNeg]
  refine callK_intro (thing_ctr _ 0 .nilslice ⟨rfl, rfl, rfl⟩) ?_
  rintro x h3 F
  obtain ⟨K', ad', M3, rfl, hn, t⟩ := M1.make (v := .thing 0 []) F rfl
  simp +contextual only [↓wA, wC, Ex.ends, evR, oneOf, top, ↓reduceIte, Nat.reduceEqDiff, Nat.reduceLeDiff, Nat.reduceAdd, Nat.reduceSub, Nat.reduceMul, reduceCtorEq, Int.reduceEq, Int.reduceLT, Int.reduceLE, Int.reduceNeg]
  refine callK_intro (tells_ctr ⟨_, _, _, _, M3⟩ O.w hn) ?_
  rintro x h4 ⟨K4, M4⟩
  simp +contextual only [↓wA, wC, Ex.ends, evR, oneOf, top, ↓reduceIte, Nat.reduceEqDiff, Nat.reduceLeDiff, Nat.reduceAdd, Nat.reduceSub, Nat.reduceMul, reduceCtorEq, Int.reduceEq, Int.reduceLT, Int.reduceLE, Int.reduceNeg]
  refine ⟨K4, ad', ?_⟩
  rw [hset, if_pos ⟨rfl, hfs⟩]
  exact M4
end
end Go.Proofs.YtjbiefneffiogaaGreat

namespace Go.Proofs.YtjbiefneffiogaaGreat
open Go Am
theorem variable_pure (n : Int) (h : Heap) : CallsV Tryz.prog 120 [.int .i64 n] h (.bool (varB n)) h := by
  refine pure_calls (c120_ctr rfl (wpK_of ?_))
  unfold c120
  simp +contextual only [↓wA, wC, Ex.ends, evR, oneOf, top, ↓reduceIte, Nat.reduceEqDiff, Nat.reduceLeDiff, Nat.reduceAdd, Nat.reduceSub, Nat.reduceMul, reduceCtorEq, Int.reduceEq, Int.reduceLT, Int.reduceLE, Int.reduceNeg]
  rfl
theorem within_ctr (n a b : Int) (h : Heap) : Ctr Tryz.prog 121 [.int .i64 n, .agg [.int .i64 a, .int .i64 b]] h fun x h' => x = .bool (withinI n a b) ∧ Ext h h' := by
  refine c121_ctr rfl (wpK_of ?_)
  unfold c121
  have t0 : ((0 : Int) < ((2 : Nat) : Int)) = True := eq_true (by decide)
  have t1 : ((1 : Int) < ((2 : Nat) : Int)) = True := eq_true (by decide)
  simp +contextual only [iaa_eq, t0, t1, Int.toNat_zero, Int.toNat_one, Nat.zero_mul, Nat.add_zero, ↓wA, wC, Ex.ends, evR, oneOf, top, ↓reduceIte, Nat.reduceEqDiff, Nat.reduceLeDiff, Nat.reduceAdd, Nat.reduceSub, Nat.reduceMul, reduceCtorEq, Int.reduceEq, Int.reduceLT, Int.reduceLE, Int.reduceNeg]
  exact ⟨rfl, (Ext.refl h).new _⟩
theorem atom_ctr (a : At) (h : Heap) : Ctr Tryz.prog 126 [.agg a.enc] h fun x h' => x = .bool (atB a) ∧ Ext h h' := by
  obtain ⟨k, n, s⟩ := a
  refine c126_ctr rfl (wpK_of ?_)
  unfold c126
  have hx : Ext h (h.new (.ofL (At.enc ⟨k, n, s⟩) 0 false)) := (Ext.refl h).new _
  have he : At.enc ⟨k, n, s⟩ = [.int .i64 k, .int .i64 n, .str s] := rfl
  rw [he] at hx ⊢
  by_cases h1 : k = 1
  · subst h1
    simp +contextual only [↓wA, wC, Ex.ends, evR, oneOf, top, ↓reduceIte, Nat.reduceEqDiff, Nat.reduceLeDiff, Nat.reduceAdd, Nat.reduceSub, Nat.reduceMul, reduceCtorEq, Int.reduceEq, Int.reduceLT, Int.reduceLE, Int.reduceNeg]
    refine ⟨?_, hx⟩
    simp [atB, varB]
  by_cases h2 : k = 2
  · subst h2
    simp +contextual only [↓wA, wC, Ex.ends, evR, oneOf, top, ↓reduceIte, Nat.reduceEqDiff, Nat.reduceLeDiff, Nat.reduceAdd, Nat.reduceSub, Nat.reduceMul, reduceCtorEq, Int.reduceEq, Int.reduceLT, Int.reduceLE, Int.reduceNeg]
    refine ⟨?_, hx⟩
    simp [atB, numB]
  by_cases h3 : k = 3
  · subst h3
    simp +contextual only [↓wA, wC, Ex.ends, evR, oneOf, top, ↓reduceIte, Nat.reduceEqDiff, Nat.reduceLeDiff, Nat.reduceAdd, Nat.reduceSub, Nat.reduceMul, reduceCtorEq, Int.reduceEq, Int.reduceLT, Int.reduceLE, Int.reduceNeg]
    refine ⟨?_, hx⟩
    simp [atB]
    congr 1
    rw [decide_eq_decide]
    omega
  · have h1' := eq_false h1
    have h2' := eq_false h2
    have h3' := eq_false h3
    simp +contextual only [h1', h2', h3', ↓wA, wC, Ex.ends, evR, oneOf, top, ↓reduceIte, Nat.reduceEqDiff, Nat.reduceLeDiff, Nat.reduceAdd, Nat.reduceSub, Nat.reduceMul, reduceCtorEq, Int.reduceEq, Int.reduceLT, Int.reduceLE, Int.reduceNeg]
    refine ⟨?_, hx⟩
    simp [atB, h1, h2, h3]
theorem own1_ctr (a : At) (h : Heap) : Ctr Tryz.prog 125 [.agg a.enc] h fun x h' => x = .bool (!atB a) ∧ Ext h h' := by
  refine c125_ctr rfl (wpK_of ?_)
  unfold c125
  have he : (At.enc a).length = 3 := rfl
  obtain ⟨k, n, s⟩ := a
  have he : At.enc ⟨k, n, s⟩ = [.int .i64 k, .int .i64 n, .str s] := rfl
  rw [he]
  simp +contextual only [↓wA, wC, Ex.ends, evR, oneOf, top, ↓reduceIte, Nat.reduceEqDiff, Nat.reduceLeDiff, Nat.reduceAdd, Nat.reduceSub, Nat.reduceMul, reduceCtorEq, Int.reduceEq, Int.reduceLT, Int.reduceLE, Int.reduceNeg]
  refine callK_intro (he ▸ atom_ctr ⟨k, n, s⟩ _) ?_
  rintro x h1 ⟨rfl, hx1⟩
  simp +contextual only [↓wA, wC, Ex.ends, evR, oneOf, top, ↓reduceIte, Nat.reduceEqDiff, Nat.reduceLeDiff, Nat.reduceAdd, Nat.reduceSub, Nat.reduceMul, reduceCtorEq, Int.reduceEq, Int.reduceLT, Int.reduceLE, Int.reduceNeg]
  exact ((Ext.refl h).new _).trans hx1
theorem index_atom_ctr (l : List At) (v : V) (h : Heap) (H : SlV h 3 v l.length (atsV l)) (hl : l.length ≤ 4611686018427387904) :
    Ctr Tryz.prog 160 [v, .func 125 []] h fun x h' => (∃ i : Int, x = .int .i64 i ∧ decide (0 ≤ i) = !l.all atB) ∧ Ext h h' := by
  refine c160_ctr rfl (wpK_of ?_)
  unfold c160
  simp +contextual only [H.len, ↓wA, wC, Ex.ends, evR, oneOf, top, ↓reduceIte, Nat.reduceEqDiff, Nat.reduceLeDiff, Nat.reduceAdd, Nat.reduceSub, Nat.reduceMul, reduceCtorEq, Int.reduceEq, Int.reduceLT, Int.reduceLE, Int.reduceNeg]
  refine loopK_intro (fun r h' => Ext h h' ∧ r 0 = v ∧ r 1 = .func 125 [] ∧ r 7 = .int .i64 l.length ∧ ∃ i : Nat, r 8 = .int .i64 i ∧ i ≤ l.length ∧ l.all atB = (l.drop i).all atB) (fun r h' => l.length - (r 8).toN) ?_ ?_
  · exact ⟨Ext.refl h, by simp only [↓wA, wC, ↓reduceIte, Nat.reduceEqDiff, reduceCtorEq], by simp only [↓wA, wC, ↓reduceIte, Nat.reduceEqDiff, reduceCtorEq], by simp only [↓wA, wC, ↓reduceIte, Nat.reduceEqDiff, reduceCtorEq], 0, by simp only [↓wA, wC, ↓reduceIte, Nat.reduceEqDiff, reduceCtorEq] <;> rfl, by omega, rfl⟩
  · rintro r h' ⟨hx, r0, r1, r7, i, r8, hi, hok⟩
    unfold c160l1
    by_cases hlt : i < l.length
    · have g0 : ((i : Int) < (l.length : Int)) = True := eq_true (by omega)
      obtain ⟨b, o, ia, ld, _⟩ := ats_at (H.ext hx) (k := .i64) hlt
      rw [List.drop_eq_getElem_cons hlt, List.all_cons] at hok
      have w := w_inc hlt hl
      simp +contextual only [r0, r1, r7, r8, g0, ia, ld, ↓wA, wC, Ex.ends, evR, oneOf, top, ↓reduceIte, Nat.reduceEqDiff, Nat.reduceLeDiff, Nat.reduceAdd, Nat.reduceSub, Nat.reduceMul, reduceCtorEq, Int.reduceEq, Int.reduceLT, Int.reduceLE, Int.reduceNeg]
      refine callK_intro (own1_ctr l[i] h') ?_
      rintro x h1 ⟨rfl, hx1⟩
      cases ha : atB l[i] with
      | true =>
        simp +contextual only [r0, r1, r7, r8, w, ↓wA, wC, Ex.ends, evR, oneOf, top, ↓reduceIte, Nat.reduceEqDiff, Nat.reduceLeDiff, Nat.reduceAdd, Nat.reduceSub, Nat.reduceMul, reduceCtorEq, Int.reduceEq, Int.reduceLT, Int.reduceLE, Int.reduceNeg]
        exact ⟨⟨hx.trans hx1, ⟨i + 1, rfl, hlt, by rw [hok, ha, Bool.true_and]⟩⟩, by omega⟩
      | false =>
        simp +contextual only [r0, r1, r7, r8, w, ↓wA, wC, Ex.ends, evR, oneOf, top, ↓reduceIte, Nat.reduceEqDiff, Nat.reduceLeDiff, Nat.reduceAdd, Nat.reduceSub, Nat.reduceMul, reduceCtorEq, Int.reduceEq, Int.reduceLT, Int.reduceLE, Int.reduceNeg]
        refine ⟨⟨i, rfl, ?_⟩, hx.trans hx1⟩
        rw [hok, ha]
        simp
    · have g0 : ((i : Int) < (l.length : Int)) = False := eq_false (by omega)
      rw [List.drop_eq_nil_of_le (by omega)] at hok
      simp +contextual only [r0, r1, r7, r8, g0, ↓wA, wC, Ex.ends, evR, oneOf, top, ↓reduceIte, Nat.reduceEqDiff, Nat.reduceLeDiff, Nat.reduceAdd, Nat.reduceSub, Nat.reduceMul, reduceCtorEq, Int.reduceEq, Int.reduceLT, Int.reduceLE, Int.reduceNeg]
      exact ⟨⟨-1, rfl, by rw [hok]; rfl⟩, hx⟩
theorem contains_atom_ctr (l : List At) (v : V) (h : Heap) (H : SlV h 3 v l.length (atsV l)) (hl : l.length ≤ 4611686018427387904) :
    Ctr Tryz.prog 124 [v, .func 125 []] h fun x h' => x = .bool (!l.all atB) ∧ Ext h h' := by
  refine c124_ctr rfl (wpK_of ?_)
  unfold c124
  simp +contextual only [↓wA, wC, Ex.ends, evR, oneOf, top, ↓reduceIte, Nat.reduceEqDiff, Nat.reduceLeDiff, Nat.reduceAdd, Nat.reduceSub, Nat.reduceMul, reduceCtorEq, Int.reduceEq, Int.reduceLT, Int.reduceLE, Int.reduceNeg]
  refine callK_intro (index_atom_ctr l v h H hl) ?_
  rintro x h1 ⟨⟨i, rfl, hi⟩, hx1⟩
  simp +contextual only [hi, ↓wA, wC, Ex.ends, evR, oneOf, top, ↓reduceIte, Nat.reduceEqDiff, Nat.reduceLeDiff, Nat.reduceAdd, Nat.reduceSub, Nat.reduceMul, reduceCtorEq, Int.reduceEq, Int.reduceLT, Int.reduceLE, Int.reduceNeg]
  exact hx1
end Go.Proofs.YtjbiefneffiogaaGreat

namespace Go.Proofs.YtjbiefneffiogaaGreat
open Go Am
def Ru.enc (r : Ru) : List V := [.bool r.x, .bool r.n, .bool r.s, .bool r.tags, .int .i64 r.a0, .int .i64 r.a1, .int .i64 r.l0, .int .i64 r.l1]
theorem rules_ext (h : Heap) (e1 e2 e3 e4 : Blk) : Ext h ((((h.new e1).new e2).set (pa (h.next + 1)) e3).set (pa h.next) e4) := ((((Ext.refl h).new e1).new e2).set (by omega) e3).set (Nat.le_refl _) e4
set_option maxRecDepth 100000 in
theorem rules_low (k : Int) (h0 : k ≤ 0) (h : Heap) : Ctr Tryz.prog 119 [.int .i64 k] h fun x h' => x = .tuple [.agg ((rulesM k).getD Ru.none).enc, .bool (rulesM k).isSome] ∧ Ext h h' := by
  refine c119_ctr rfl (wpK_of ?_)
  unfold c119
  have h0' := eq_true h0
  have hr : rulesM k = none := by unfold rulesM; repeat rw [if_neg (by omega)]
  simp +contextual (maxSteps := 1000000) only [h0', hr, ↓wA, wC, Ex.ends, evR, oneOf, top, ↓reduceIte, Nat.reduceEqDiff, Nat.reduceLeDiff, Nat.reduceAdd, Nat.reduceSub, Nat.reduceMul, reduceCtorEq, Int.reduceEq, Int.reduceLT, Int.reduceLE, Int.reduceNeg]
  exact ⟨rfl, rules_ext h _ _ _ _⟩
set_option maxRecDepth 100000 in
theorem rules_high (k : Int) (h1 : 13 ≤ k) (h : Heap) : Ctr Tryz.prog 119 [.int .i64 k] h fun x h' => x = .tuple [.agg ((rulesM k).getD Ru.none).enc, .bool (rulesM k).isSome] ∧ Ext h h' := by
  refine c119_ctr rfl (wpK_of ?_)
  unfold c119
  have h0' : (k ≤ 0) = False := eq_false (by omega)
  have h1' := eq_true h1
  have hr : rulesM k = none := by unfold rulesM; repeat rw [if_neg (by omega)]
  simp +contextual (maxSteps := 1000000) only [h0', h1', hr, ↓wA, wC, Ex.ends, evR, oneOf, top, ↓reduceIte, Nat.reduceEqDiff, Nat.reduceLeDiff, Nat.reduceAdd, Nat.reduceSub, Nat.reduceMul, reduceCtorEq, Int.reduceEq, Int.reduceLT, Int.reduceLE, Int.reduceNeg]
  exact ⟨rfl, rules_ext h _ _ _ _⟩
set_option maxRecDepth 100000 in
theorem rules8 (h : Heap) : Ctr Tryz.prog 119 [.int .i64 8] h fun x h' => x = .tuple [.agg ((rulesM 8).getD Ru.none).enc, .bool (rulesM 8).isSome] ∧ Ext h h' := by
  refine c119_ctr rfl (wpK_of ?_)
  unfold c119
  have hr : rulesM 8 = none := by decide
  simp +contextual (maxSteps := 1000000) only [hr, ↓wA, wC, Ex.ends, evR, oneOf, top, ↓reduceIte, Nat.reduceEqDiff, Nat.reduceLeDiff, Nat.reduceAdd, Nat.reduceSub, Nat.reduceMul, reduceCtorEq, Int.reduceEq, Int.reduceLT, Int.reduceLE, Int.reduceNeg]
  exact ⟨rfl, rules_ext h _ _ _ _⟩
set_option maxRecDepth 100000 in
theorem rules1 (h : Heap) : Ctr Tryz.prog 119 [.int .i64 1] h fun x h' => x = .tuple [.agg ((rulesM 1).getD Ru.none).enc, .bool (rulesM 1).isSome] ∧ Ext h h' := by
  refine c119_ctr rfl (wpK_of ?_)
  unfold c119
  have t0 : ((1 : Int) < ((13 : Nat) : Int)) = True := eq_true (by decide)
  have t1 : (1 : Int).toNat = 1 := rfl
  simp +contextual (maxSteps := 1000000) only [iaa_eq, t0, t1, Nat.reduceMul, Nat.zero_add, ↓wA, wC, Ex.ends, evR, oneOf, top, ↓reduceIte, Nat.reduceEqDiff, Nat.reduceLeDiff, Nat.reduceAdd, Nat.reduceSub, Nat.reduceMul, reduceCtorEq, Int.reduceEq, Int.reduceLT, Int.reduceLE, Int.reduceNeg]
  exact ⟨rfl, rules_ext h _ _ _ _⟩
set_option maxRecDepth 100000 in
theorem rules2 (h : Heap) : Ctr Tryz.prog 119 [.int .i64 2] h fun x h' => x = .tuple [.agg ((rulesM 2).getD Ru.none).enc, .bool (rulesM 2).isSome] ∧ Ext h h' := by
  refine c119_ctr rfl (wpK_of ?_)
  unfold c119
  have t0 : ((2 : Int) < ((13 : Nat) : Int)) = True := eq_true (by decide)
  have t1 : (2 : Int).toNat = 2 := rfl
  simp +contextual (maxSteps := 1000000) only [iaa_eq, t0, t1, Nat.reduceMul, Nat.zero_add, ↓wA, wC, Ex.ends, evR, oneOf, top, ↓reduceIte, Nat.reduceEqDiff, Nat.reduceLeDiff, Nat.reduceAdd, Nat.reduceSub, Nat.reduceMul, reduceCtorEq, Int.reduceEq, Int.reduceLT, Int.reduceLE, Int.reduceNeg]
  exact ⟨rfl, rules_ext h _ _ _ _⟩
set_option maxRecDepth 100000 in
theorem rules3 (h : Heap) : Ctr Tryz.prog 119 [.int .i64 3] h fun x h' => x = .tuple [.agg ((rulesM 3).getD Ru.none).enc, .bool (rulesM 3).isSome] ∧ Ext h h' := by
  refine c119_ctr rfl (wpK_of ?_)
  unfold c119
  have t0 : ((3 : Int) < ((13 : Nat) : Int)) = True := eq_true (by decide)
  have t1 : (3 : Int).toNat = 3 := rfl
  simp +contextual (maxSteps := 1000000) only [iaa_eq, t0, t1, Nat.reduceMul, Nat.zero_add, ↓wA, wC, Ex.ends, evR, oneOf, top, ↓reduceIte, Nat.reduceEqDiff, Nat.reduceLeDiff, Nat.reduceAdd, Nat.reduceSub, Nat.reduceMul, reduceCtorEq, Int.reduceEq, Int.reduceLT, Int.reduceLE, Int.reduceNeg]
  exact ⟨rfl, rules_ext h _ _ _ _⟩
set_option maxRecDepth 100000 in
theorem rules4 (h : Heap) : Ctr Tryz.prog 119 [.int .i64 4] h fun x h' => x = .tuple [.agg ((rulesM 4).getD Ru.none).enc, .bool (rulesM 4).isSome] ∧ Ext h h' := by
  refine c119_ctr rfl (wpK_of ?_)
  unfold c119
  have t0 : ((4 : Int) < ((13 : Nat) : Int)) = True := eq_true (by decide)
  have t1 : (4 : Int).toNat = 4 := rfl
  simp +contextual (maxSteps := 1000000) only [iaa_eq, t0, t1, Nat.reduceMul, Nat.zero_add, ↓wA, wC, Ex.ends, evR, oneOf, top, ↓reduceIte, Nat.reduceEqDiff, Nat.reduceLeDiff, Nat.reduceAdd, Nat.reduceSub, Nat.reduceMul, reduceCtorEq, Int.reduceEq, Int.reduceLT, Int.reduceLE, Int.reduceNeg]
  exact ⟨rfl, rules_ext h _ _ _ _⟩
set_option maxRecDepth 100000 in
theorem rules5 (h : Heap) : Ctr Tryz.prog 119 [.int .i64 5] h fun x h' => x = .tuple [.agg ((rulesM 5).getD Ru.none).enc, .bool (rulesM 5).isSome] ∧ Ext h h' := by
  refine c119_ctr rfl (wpK_of ?_)
  unfold c119
  have t0 : ((5 : Int) < ((13 : Nat) : Int)) = True := eq_true (by decide)
  have t1 : (5 : Int).toNat = 5 := rfl
  simp +contextual (maxSteps := 1000000) only [iaa_eq, t0, t1, Nat.reduceMul, Nat.zero_add, ↓wA, wC, Ex.ends, evR, oneOf, top, ↓reduceIte, Nat.reduceEqDiff, Nat.reduceLeDiff, Nat.reduceAdd, Nat.reduceSub, Nat.reduceMul, reduceCtorEq, Int.reduceEq, Int.reduceLT, Int.reduceLE, Int.reduceNeg]
  exact ⟨rfl, rules_ext h _ _ _ _⟩
set_option maxRecDepth 100000 in
theorem rules6 (h : Heap) : Ctr Tryz.prog 119 [.int .i64 6] h fun x h' => x = .tuple [.agg ((rulesM 6).getD Ru.none).enc, .bool (rulesM 6).isSome] ∧ Ext h h' := by
  refine c119_ctr rfl (wpK_of ?_)
  unfold c119
  have t0 : ((6 : Int) < ((13 : Nat) : Int)) = True := eq_true (by decide)
  have t1 : (6 : Int).toNat = 6 := rfl
  simp +contextual (maxSteps := 1000000) only [iaa_eq, t0, t1, Nat.reduceMul, Nat.zero_add, ↓wA, wC, Ex.ends, evR, oneOf, top, ↓reduceIte, Nat.reduceEqDiff, Nat.reduceLeDiff, Nat.reduceAdd, Nat.reduceSub, Nat.reduceMul, reduceCtorEq, Int.reduceEq, Int.reduceLT, Int.reduceLE, Int.reduceNeg]
  exact ⟨rfl, rules_ext h _ _ _ _⟩
set_option maxRecDepth 100000 in
theorem rules7 (h : Heap) : Ctr Tryz.prog 119 [.int .i64 7] h fun x h' => x = .tuple [.agg ((rulesM 7).getD Ru.none).enc, .bool (rulesM 7).isSome] ∧ Ext h h' := by
  refine c119_ctr rfl (wpK_of ?_)
  unfold c119
  have t0 : ((7 : Int) < ((13 : Nat) : Int)) = True := eq_true (by decide)
  have t1 : (7 : Int).toNat = 7 := rfl
  simp +contextual (maxSteps := 1000000) only [iaa_eq, t0, t1, Nat.reduceMul, Nat.zero_add, ↓wA, wC, Ex.ends, evR, oneOf, top, ↓reduceIte, Nat.reduceEqDiff, Nat.reduceLeDiff, Nat.reduceAdd, Nat.reduceSub, Nat.reduceMul, reduceCtorEq, Int.reduceEq, Int.reduceLT, Int.reduceLE, Int.reduceNeg]
  exact ⟨rfl, rules_ext h _ _ _ _⟩
set_option maxRecDepth 100000 in
theorem rules9 (h : Heap) : Ctr Tryz.prog 119 [.int .i64 9] h fun x h' => x = .tuple [.agg ((rulesM 9).getD Ru.none).enc, .bool (rulesM 9).isSome] ∧ Ext h h' := by
  refine c119_ctr rfl (wpK_of ?_)
  unfold c119
  have t0 : ((9 : Int) < ((13 : Nat) : Int)) = True := eq_true (by decide)
  have t1 : (9 : Int).toNat = 9 := rfl
  simp +contextual (maxSteps := 1000000) only [iaa_eq, t0, t1, Nat.reduceMul, Nat.zero_add, ↓wA, wC, Ex.ends, evR, oneOf, top, ↓reduceIte, Nat.reduceEqDiff, Nat.reduceLeDiff, Nat.reduceAdd, Nat.reduceSub, Nat.reduceMul, reduceCtorEq, Int.reduceEq, Int.reduceLT, Int.reduceLE, Int.reduceNeg]
  exact ⟨rfl, rules_ext h _ _ _ _⟩
set_option maxRecDepth 100000 in
theorem rules10 (h : Heap) : Ctr Tryz.prog 119 [.int .i64 10] h fun x h' => x = .tuple [.agg ((rulesM 10).getD Ru.none).enc, .bool (rulesM 10).isSome] ∧ Ext h h' := by
  refine c119_ctr rfl (wpK_of ?_)
  unfold c119
  have t0 : ((10 : Int) < ((13 : Nat) : Int)) = True := eq_true (by decide)
  have t1 : (10 : Int).toNat = 10 := rfl
  simp +contextual (maxSteps := 1000000) only [iaa_eq, t0, t1, Nat.reduceMul, Nat.zero_add, ↓wA, wC, Ex.ends, evR, oneOf, top, ↓reduceIte, Nat.reduceEqDiff, Nat.reduceLeDiff, Nat.reduceAdd, Nat.reduceSub, Nat.reduceMul, reduceCtorEq, Int.reduceEq, Int.reduceLT, Int.reduceLE, Int.reduceNeg]
  exact ⟨rfl, rules_ext h _ _ _ _⟩
set_option maxRecDepth 100000 in
theorem rules11 (h : Heap) : Ctr Tryz.prog 119 [.int .i64 11] h fun x h' => x = .tuple [.agg ((rulesM 11).getD Ru.none).enc, .bool (rulesM 11).isSome] ∧ Ext h h' := by
  refine c119_ctr rfl (wpK_of ?_)
  unfold c119
  have t0 : ((11 : Int) < ((13 : Nat) : Int)) = True := eq_true (by decide)
  have t1 : (11 : Int).toNat = 11 := rfl
  simp +contextual (maxSteps := 1000000) only [iaa_eq, t0, t1, Nat.reduceMul, Nat.zero_add, ↓wA, wC, Ex.ends, evR, oneOf, top, ↓reduceIte, Nat.reduceEqDiff, Nat.reduceLeDiff, Nat.reduceAdd, Nat.reduceSub, Nat.reduceMul, reduceCtorEq, Int.reduceEq, Int.reduceLT, Int.reduceLE, Int.reduceNeg]
  exact ⟨rfl, rules_ext h _ _ _ _⟩
set_option maxRecDepth 100000 in
theorem rules12 (h : Heap) : Ctr Tryz.prog 119 [.int .i64 12] h fun x h' => x = .tuple [.agg ((rulesM 12).getD Ru.none).enc, .bool (rulesM 12).isSome] ∧ Ext h h' := by
  refine c119_ctr rfl (wpK_of ?_)
  unfold c119
  have t0 : ((12 : Int) < ((13 : Nat) : Int)) = True := eq_true (by decide)
  have t1 : (12 : Int).toNat = 12 := rfl
  simp +contextual (maxSteps := 1000000) only [iaa_eq, t0, t1, Nat.reduceMul, Nat.zero_add, ↓wA, wC, Ex.ends, evR, oneOf, top, ↓reduceIte, Nat.reduceEqDiff, Nat.reduceLeDiff, Nat.reduceAdd, Nat.reduceSub, Nat.reduceMul, reduceCtorEq, Int.reduceEq, Int.reduceLT, Int.reduceLE, Int.reduceNeg]
  exact ⟨rfl, rules_ext h _ _ _ _⟩
theorem rules_ctr (k : Int) (h : Heap) : Ctr Tryz.prog 119 [.int .i64 k] h fun x h' => x = .tuple [.agg ((rulesM k).getD Ru.none).enc, .bool (rulesM k).isSome] ∧ Ext h h' := by
  by_cases h0 : k ≤ 0
  · exact rules_low k h0 h
  by_cases h13 : 13 ≤ k
  · exact rules_high k h13 h
  have : k = 1 ∨ k = 2 ∨ k = 3 ∨ k = 4 ∨ k = 5 ∨ k = 6 ∨ k = 7 ∨ k = 8 ∨ k = 9 ∨ k = 10 ∨ k = 11 ∨ k = 12 := by omega
  rcases this with rfl | rfl | rfl | rfl | rfl | rfl | rfl | rfl | rfl | rfl | rfl | rfl
  · exact rules1 h
  · exact rules2 h
  · exact rules3 h
  · exact rules4 h
  · exact rules5 h
  · exact rules6 h
  · exact rules7 h
  · exact rules8 h
  · exact rules9 h
  · exact rules10 h
  · exact rules11 h
  · exact rules12 h
def esOf (kvs : List (List UInt8 × Int)) (n : Nat) : List ME :=
  match kvs with
  | [] => []
  | x :: l => ⟨.str x.1, .int .i64 x.2, n⟩ :: esOf l (n + 1)
theorem putS_new {k : List UInt8} {v : Int} {c : Nat} : ∀ (kvs : List (List UInt8 × Int)) (n : Nat), (kvs.all fun x => !decide (k = x.1)) = true →
    putV KK.str.eq (.str k) (.int .i64 v) c (esOf kvs n) = some (esOf kvs n ++ [⟨.str k, .int .i64 v, c⟩], true)
  | [], _, _ => rfl
  | x :: l, n, h => by
    simp only [List.all_cons, Bool.and_eq_true, Bool.not_eq_true', decide_eq_false_iff_not] at h
    have ih := putS_new (k := k) (v := v) (c := c) l (n + 1) (by simpa using h.2)
    have hb : beqBytes k x.1 = false := by rw [beqBytes_dec]; exact decide_eq_false h.1
    simp only [esOf, putV, KK.eq, eqStrC, hb, cond_false] at ih ⊢
    rw [ih]
    rfl
theorem esOf_app : ∀ (kvs : List (List UInt8 × Int)) (n : Nat) (k : List UInt8) (v : Int), esOf kvs n ++ [⟨.str k, .int .i64 v, n + kvs.length⟩] = esOf (kvs ++ [(k, v)]) n
  | [], n, k, v => rfl
  | x :: l, n, k, v => by
    rw [esOf, List.cons_append, List.cons_append, esOf, ← esOf_app l (n + 1) k v, List.length_cons]
    congr 4
    omega
def newKeys : List (List UInt8 × Int) → List (List UInt8 × Int) → Bool
  | _, [] => true
  | l, x :: m => (l.all fun y => !decide (x.1 = y.1)) && newKeys (l ++ [x]) m
def updOp (t : Nat) (x : List UInt8 × Int) : GO := ⟨none, .upd .str (.t t) (.c (.str x.1)) (.c (.int .i64 x.2)), none, [t]⟩
theorem set_set_same (h : Heap) (b : Pa) (k k' : Blk) : (h.set b k).set b k' = h.set b k' := by
  unfold Heap.set
  simp only [T.put_put]
theorem upds {t : Nat} {os : List GO} {ks : List KS} {Q : Ex → RF → Heap → Prop} {r : RF} {b : Pa} (hr : r t = .map b) : ∀ (m l : List (List UInt8 × Int)) (h : Heap), newKeys l m = true → h.get b = .mp (esOf l 0) l.length →
    wpK Tryz.prog (.os none os :: ks) .normal r (if m = [] then h else h.set b (.mp (esOf (l ++ m) 0) (l.length + m.length))) Q → wpK Tryz.prog (.os none (m.map (updOp t) ++ os) :: ks) .normal r h Q
  | [], l, h, _, _, H => by simpa using H
  | x :: m, l, h, hn, hg, H => by
    simp only [newKeys, Bool.and_eq_true] at hn
    rw [List.map_cons, List.cons_append]
    unfold updOp
    rw [k_upd]
    have hp := putS_new (k := x.1) (v := x.2) (c := l.length) l 0 hn.1
    have hu : updV KK.str.eq h (.map b) (.str x.1) (.int .i64 x.2) = some (h.set b (.mp (esOf (l ++ [x]) 0) (l.length + 1))) := by
      simp only [updV, hg, Blk.onMap, hp, cond_true, Option.some.injEq]
      rw [← esOf_app l 0 x.1 x.2, Nat.zero_add]
    have e1 : (RX.t t).ev (r.trim [t]) = .map b := by rw [ev_t, trim_mem (by simp), hr]
    rw [e1, ev_c, ev_c, hu]
    show wpK Tryz.prog (.os none (m.map (updOp t) ++ os) :: ks) .normal (r.set none .bad) (h.set b (.mp (esOf (l ++ [x]) 0) (l.length + 1))) Q
    refine upds hr m (l ++ [x]) _ hn.2 (by rw [get_set, if_pos rfl, List.length_append]; rfl) ?_
    rw [if_neg (by simp)] at H
    by_cases hm : m = []
    · subst hm
      simpa using H
    · rw [if_neg hm, set_set_same, List.append_assoc, List.singleton_append, List.length_append, show l.length + [x].length + m.length = l.length + (x :: m).length from by simp; omega]
      exact H
def primKvs : List (List UInt8 × Int) := prims2.map (fun s => (s, 2)) ++ prims1.map (fun s => (s, 1)) ++ [([99, 117, 116], 3)]
theorem prims_ctr (h : Heap) : Ctr Tryz.prog 122 [] h fun x h' => x = .map (pa h.next) ∧ h'.get (pa h.next) = .mp (esOf primKvs 0) 18 ∧ Ext h h' := by
  refine c122_ctr rfl (wpK_of ?_)
  unfold c122
  simp +contextual only [↓wA, wC, Ex.ends, evR, oneOf, top, ↓reduceIte, Nat.reduceEqDiff, Nat.reduceLeDiff, Nat.reduceAdd, Nat.reduceSub, Nat.reduceMul, reduceCtorEq, Int.reduceEq, Int.reduceLT, Int.reduceLE, Int.reduceNeg]
  rw [show makeMapV none h = .val (.map (pa h.next)) (h.new (.mp [] 0)) from rfl, so_val]
  refine upds (t := 1) (b := pa h.next) (by simp only [↓wA, wC, ↓reduceIte, Nat.reduceEqDiff, reduceCtorEq]) primKvs [] _ (by decide) (by rw [get_new_self]; rfl) ?_
  rw [if_neg (by decide)]
  simp +contextual only [↓wA, wC, Ex.ends, evR, oneOf, top, ↓reduceIte, Nat.reduceEqDiff, Nat.reduceLeDiff, Nat.reduceAdd, Nat.reduceSub, Nat.reduceMul, reduceCtorEq, Int.reduceEq, Int.reduceLT, Int.reduceLE, Int.reduceNeg]
  exact ⟨rfl, ((Ext.refl h).new _).set (Nat.le_refl _) _⟩
theorem find_es {k : List UInt8} : ∀ (kvs : List (List UInt8 × Int)) (n : Nat), findV KK.str.eq (.str k) (esOf kvs n) = some ((kvs.find? fun x => decide (k = x.1)).map fun x => .int .i64 x.2)
  | [], _ => rfl
  | x :: l, n => by
    simp only [esOf, findV, KK.eq, eqStrC, List.find?_cons]
    rw [beqBytes_dec]
    cases h : decide (k = x.1) with
    | true => rfl
    | false => exact find_es l (n + 1)
theorem takes_find (s : List UInt8) : (match (primKvs.find? fun x => decide (s = x.1)).map (fun x => x.2) with | some n => n | none => 0) = takes s := by
  unfold takes
  by_cases h2 : s ∈ prims2
  · rw [if_pos h2]
    simp only [prims2, List.mem_cons, List.not_mem_nil, or_false] at h2
    rcases h2 with rfl | rfl | rfl | rfl | rfl | rfl | rfl | rfl | rfl | rfl | rfl <;> rfl
  rw [if_neg h2]
  by_cases h1 : s ∈ prims1
  · rw [if_pos h1]
    simp only [prims1, List.mem_cons, List.not_mem_nil, or_false] at h1
    rcases h1 with rfl | rfl | rfl | rfl | rfl | rfl <;> rfl
  rw [if_neg h1]
  by_cases h3 : s = [99, 117, 116]
  · subst h3; rfl
  rw [if_neg h3]
  have : (primKvs.find? fun x => decide (s = x.1)) = none := by
    rw [List.find?_eq_none]
    intro x hx
    simp only [primKvs, List.mem_append, List.mem_map, List.mem_cons, List.not_mem_nil, or_false] at hx
    simp only [decide_eq_true_eq]
    rcases hx with (⟨y, hy, rfl⟩ | ⟨y, hy, rfl⟩) | rfl
    · rintro rfl; exact h2 hy
    · rintro rfl; exact h1 hy
    · exact h3
  rw [this]
  rfl
theorem look_prims {h : Heap} {b : Pa} (hg : h.get b = .mp (esOf primKvs 0) 18) (s : List UInt8) : lookupV KK.str.eq (.int .i64 0) false h (.map b) (.str s) = some (.int .i64 (takes s)) := by
  simp only [lookupV, mapSee, hg, Blk.onMap, find_es, cond_false]
  rw [← takes_find s]
  cases (primKvs.find? fun x => decide (s = x.1)) <;> rfl
end Go.Proofs.YtjbiefneffiogaaGreat

namespace Go.Proofs.YtjbiefneffiogaaGreat
open Go Am
theorem rng_mul {a b : Int} (ha : rng a) (hb : rng b) : -2305843009213693952 ≤ a * b ∧ a * b ≤ 2305843009213693952 := by
  obtain ⟨a1, a2⟩ := ha
  obtain ⟨b1, b2⟩ := hb
  have h1 : (a * b).natAbs ≤ 1073741824 * 1073741824 := by
    rw [Int.natAbs_mul]
    exact Nat.mul_le_mul (by omega) (by omega)
  omega
theorem rng_div {a b : Int} (ha : rng a) (hb : b ≠ 0) : -1073741824 ≤ a.tdiv b ∧ a.tdiv b ≤ 1073741824 := by
  have h1 : (a.tdiv b).natAbs ≤ a.natAbs := by rw [Int.natAbs_tdiv]; exact Nat.div_le_self _ _
  obtain ⟨a1, a2⟩ := ha
  omega
theorem rng_mod {a b : Int} (hb : rng b) (h0 : b ≠ 0) : -1073741824 ≤ a.tmod b ∧ a.tmod b ≤ 1073741824 := by
  obtain ⟨b1, b2⟩ := hb
  have h1 : (a.tmod b).natAbs < b.natAbs := by rw [Int.natAbs_tmod]; exact Nat.mod_lt _ (by omega)
  omega
theorem l_add (a b : Int) (h : Heap) (ha : rng a) (hb : rng b) : ∃ cs, plainC (.int (wr (a + b))) = some cs ∧ Ctr Tryz.prog 78 [.int .i64 a, .int .i64 b] h fun x h' => Fresh h h' x cs := by
  refine ⟨_, rfl, ?_⟩
  have hr : -2305843009213693952 ≤ a + b ∧ a + b ≤ 2305843009213693952 := by obtain ⟨a1, a2⟩ := ha; obtain ⟨b1, b2⟩ := hb; constructor <;> omega
  have w : IntKind.i64.wrap (a + b) = a + b := wrap_i64 (by omega) (by omega)
  refine c78_ctr rfl (wpK_of ?_)
  unfold c78
  simp +contextual only [w, ↓wA, wC, Ex.ends, evR, oneOf, top, ↓reduceIte, Nat.reduceEqDiff, Nat.reduceLeDiff, Nat.reduceAdd, Nat.reduceSub, Nat.reduceMul, reduceCtorEq, Int.reduceEq, Int.reduceLT, Int.reduceLE, Int.reduceNeg]
  refine callK_pure (wrap_pure (a + b) h hr) ?_
  simp +contextual only [w, ↓wA, wC, Ex.ends, evR, oneOf, top, ↓reduceIte, Nat.reduceEqDiff, Nat.reduceLeDiff, Nat.reduceAdd, Nat.reduceSub, Nat.reduceMul, reduceCtorEq, Int.reduceEq, Int.reduceLT, Int.reduceLE, Int.reduceNeg]
  refine callK_intro (num_ctr h (wr (a + b))) ?_
  rintro x h1 F
  simp +contextual only [↓wA, wC, Ex.ends, evR, oneOf, top, ↓reduceIte, Nat.reduceEqDiff, Nat.reduceLeDiff, Nat.reduceAdd, Nat.reduceSub, Nat.reduceMul, reduceCtorEq, Int.reduceEq, Int.reduceLT, Int.reduceLE, Int.reduceNeg]
  exact F
theorem l_sub (a b : Int) (h : Heap) (ha : rng a) (hb : rng b) : ∃ cs, plainC (.int (wr (a - b))) = some cs ∧ Ctr Tryz.prog 81 [.int .i64 a, .int .i64 b] h fun x h' => Fresh h h' x cs := by
  refine ⟨_, rfl, ?_⟩
  have hr : -2305843009213693952 ≤ a - b ∧ a - b ≤ 2305843009213693952 := by obtain ⟨a1, a2⟩ := ha; obtain ⟨b1, b2⟩ := hb; constructor <;> omega
  have w : IntKind.i64.wrap (a - b) = a - b := wrap_i64 (by omega) (by omega)
  refine c81_ctr rfl (wpK_of ?_)
  unfold c81
  simp +contextual only [w, ↓wA, wC, Ex.ends, evR, oneOf, top, ↓reduceIte, Nat.reduceEqDiff, Nat.reduceLeDiff, Nat.reduceAdd, Nat.reduceSub, Nat.reduceMul, reduceCtorEq, Int.reduceEq, Int.reduceLT, Int.reduceLE, Int.reduceNeg]
  refine callK_pure (wrap_pure (a - b) h hr) ?_
  simp +contextual only [w, ↓wA, wC, Ex.ends, evR, oneOf, top, ↓reduceIte, Nat.reduceEqDiff, Nat.reduceLeDiff, Nat.reduceAdd, Nat.reduceSub, Nat.reduceMul, reduceCtorEq, Int.reduceEq, Int.reduceLT, Int.reduceLE, Int.reduceNeg]
  refine callK_intro (num_ctr h (wr (a - b))) ?_
  rintro x h1 F
  simp +contextual only [↓wA, wC, Ex.ends, evR, oneOf, top, ↓reduceIte, Nat.reduceEqDiff, Nat.reduceLeDiff, Nat.reduceAdd, Nat.reduceSub, Nat.reduceMul, reduceCtorEq, Int.reduceEq, Int.reduceLT, Int.reduceLE, Int.reduceNeg]
  exact F
theorem l_mul (a b : Int) (h : Heap) (ha : rng a) (hb : rng b) : ∃ cs, plainC (.int (wr (a * b))) = some cs ∧ Ctr Tryz.prog 82 [.int .i64 a, .int .i64 b] h fun x h' => Fresh h h' x cs := by
  refine ⟨_, rfl, ?_⟩
  have hr : -2305843009213693952 ≤ a * b ∧ a * b ≤ 2305843009213693952 := by exact rng_mul ha hb
  have w : IntKind.i64.wrap (a * b) = a * b := wrap_i64 (by omega) (by omega)
  refine c82_ctr rfl (wpK_of ?_)
  unfold c82
  simp +contextual only [w, ↓wA, wC, Ex.ends, evR, oneOf, top, ↓reduceIte, Nat.reduceEqDiff, Nat.reduceLeDiff, Nat.reduceAdd, Nat.reduceSub, Nat.reduceMul, reduceCtorEq, Int.reduceEq, Int.reduceLT, Int.reduceLE, Int.reduceNeg]
  refine callK_pure (wrap_pure (a * b) h hr) ?_
  simp +contextual only [w, ↓wA, wC, Ex.ends, evR, oneOf, top, ↓reduceIte, Nat.reduceEqDiff, Nat.reduceLeDiff, Nat.reduceAdd, Nat.reduceSub, Nat.reduceMul, reduceCtorEq, Int.reduceEq, Int.reduceLT, Int.reduceLE, Int.reduceNeg]
  refine callK_intro (num_ctr h (wr (a * b))) ?_
  rintro x h1 F
  simp +contextual only [↓wA, wC, Ex.ends, evR, oneOf, top, ↓reduceIte, Nat.reduceEqDiff, Nat.reduceLeDiff, Nat.reduceAdd, Nat.reduceSub, Nat.reduceMul, reduceCtorEq, Int.reduceEq, Int.reduceLT, Int.reduceLE, Int.reduceNeg]
  exact F
theorem l_eq (a b : Int) (h : Heap) (ha : rng a) (hb : rng b) : ∃ cs, plainC (St.truthV (decide (a = b))) = some cs ∧ Ctr Tryz.prog 83 [.int .i64 a, .int .i64 b] h fun x h' => Fresh h h' x cs := by
  refine ⟨_, rfl, ?_⟩
  refine c83_ctr rfl (wpK_of ?_)
  unfold c83
  simp +contextual only [↓wA, wC, Ex.ends, evR, oneOf, top, ↓reduceIte, Nat.reduceEqDiff, Nat.reduceLeDiff, Nat.reduceAdd, Nat.reduceSub, Nat.reduceMul, reduceCtorEq, Int.reduceEq, Int.reduceLT, Int.reduceLE, Int.reduceNeg]
  refine callK_intro (truth_ctr h (decide (a = b))) ?_
  rintro x h1 F
  simp +contextual only [↓wA, wC, Ex.ends, evR, oneOf, top, ↓reduceIte, Nat.reduceEqDiff, Nat.reduceLeDiff, Nat.reduceAdd, Nat.reduceSub, Nat.reduceMul, reduceCtorEq, Int.reduceEq, Int.reduceLT, Int.reduceLE, Int.reduceNeg]
  exact F
theorem l_lt (a b : Int) (h : Heap) (ha : rng a) (hb : rng b) : ∃ cs, plainC (St.truthV (decide (a < b))) = some cs ∧ Ctr Tryz.prog 85 [.int .i64 a, .int .i64 b] h fun x h' => Fresh h h' x cs := by
  refine ⟨_, rfl, ?_⟩
  refine c85_ctr rfl (wpK_of ?_)
  unfold c85
  simp +contextual only [↓wA, wC, Ex.ends, evR, oneOf, top, ↓reduceIte, Nat.reduceEqDiff, Nat.reduceLeDiff, Nat.reduceAdd, Nat.reduceSub, Nat.reduceMul, reduceCtorEq, Int.reduceEq, Int.reduceLT, Int.reduceLE, Int.reduceNeg]
  refine callK_intro (truth_ctr h (decide (a < b))) ?_
  rintro x h1 F
  simp +contextual only [↓wA, wC, Ex.ends, evR, oneOf, top, ↓reduceIte, Nat.reduceEqDiff, Nat.reduceLeDiff, Nat.reduceAdd, Nat.reduceSub, Nat.reduceMul, reduceCtorEq, Int.reduceEq, Int.reduceLT, Int.reduceLE, Int.reduceNeg]
  exact F
theorem l_le (a b : Int) (h : Heap) (ha : rng a) (hb : rng b) : ∃ cs, plainC (St.truthV (decide (a ≤ b))) = some cs ∧ Ctr Tryz.prog 86 [.int .i64 a, .int .i64 b] h fun x h' => Fresh h h' x cs := by
  refine ⟨_, rfl, ?_⟩
  refine c86_ctr rfl (wpK_of ?_)
  unfold c86
  simp +contextual only [↓wA, wC, Ex.ends, evR, oneOf, top, ↓reduceIte, Nat.reduceEqDiff, Nat.reduceLeDiff, Nat.reduceAdd, Nat.reduceSub, Nat.reduceMul, reduceCtorEq, Int.reduceEq, Int.reduceLT, Int.reduceLE, Int.reduceNeg]
  refine callK_intro (truth_ctr h (decide (a ≤ b))) ?_
  rintro x h1 F
  simp +contextual only [↓wA, wC, Ex.ends, evR, oneOf, top, ↓reduceIte, Nat.reduceEqDiff, Nat.reduceLeDiff, Nat.reduceAdd, Nat.reduceSub, Nat.reduceMul, reduceCtorEq, Int.reduceEq, Int.reduceLT, Int.reduceLE, Int.reduceNeg]
  exact F
theorem l_div (a b : Int) (h : Heap) (ha : rng a) (hb : rng b) (h0 : b ≠ 0) : CallsV Tryz.prog 88 [.int .i64 a, .int .i64 b] h (.int .i64 (a.tdiv b)) h ∧ -2305843009213693952 ≤ a.tdiv b ∧ a.tdiv b ≤ 2305843009213693952 := by
  have hr := rng_div ha h0
  refine ⟨pure_calls (c88_ctr rfl (wpK_of ?_)), by omega, by omega⟩
  unfold c88
  have k : (BK.int .quo).run Tryz.prog (.int .i64 a) (.int .i64 b) = some (.int .i64 (a.tdiv b)) := by
    rw [k_quo .i64 a b h0, wrap_i64 (by omega) (by omega)]
  simp +contextual only [k, ↓wA, wC, Ex.ends, evR, oneOf, top, ↓reduceIte, Nat.reduceEqDiff, Nat.reduceLeDiff, Nat.reduceAdd, Nat.reduceSub, Nat.reduceMul, reduceCtorEq, Int.reduceEq, Int.reduceLT, Int.reduceLE, Int.reduceNeg]
theorem l_mod (a b : Int) (h : Heap) (ha : rng a) (hb : rng b) (h0 : b ≠ 0) : CallsV Tryz.prog 89 [.int .i64 a, .int .i64 b] h (.int .i64 (a.tmod b)) h ∧ -2305843009213693952 ≤ a.tmod b ∧ a.tmod b ≤ 2305843009213693952 := by
  have hr := rng_mod (a := a) hb h0
  refine ⟨pure_calls (c89_ctr rfl (wpK_of ?_)), by omega, by omega⟩
  unfold c89
  have k : (BK.int .rem).run Tryz.prog (.int .i64 a) (.int .i64 b) = some (.int .i64 (a.tmod b)) := by
    rw [k_rem .i64 a b h0]
  simp +contextual only [k, ↓wA, wC, Ex.ends, evR, oneOf, top, ↓reduceIte, Nat.reduceEqDiff, Nat.reduceLeDiff, Nat.reduceAdd, Nat.reduceSub, Nat.reduceMul, reduceCtorEq, Int.reduceEq, Int.reduceLT, Int.reduceLE, Int.reduceNeg]
theorem two_box (f : FuncId) (h : Heap) : Ctr Tryz.prog 77 [.func f []] h fun x h' => ∃ b, x = .func 145 [.ptr b 0] ∧ Ext h h' ∧ h.next ≤ unPa b ∧ Old h' b ∧ h'.get b = .ofL [.func f []] 0 false := by
  refine c77_ctr rfl (wpK_of ?_)
  unfold c77
  simp +contextual only [↓wA, wC, Ex.ends, evR, oneOf, top, ↓reduceIte, Nat.reduceEqDiff, Nat.reduceLeDiff, Nat.reduceAdd, Nat.reduceSub, Nat.reduceMul, reduceCtorEq, Int.reduceEq, Int.reduceLT, Int.reduceLE, Int.reduceNeg]
  exact ⟨_, rfl, (Ext.refl h).new _, by rw [unPa_pa]; exact Nat.le_refl _, old_self, if_pos rfl⟩
theorem div_box (f : FuncId) (h : Heap) : Ctr Tryz.prog 87 [.func f []] h fun x h' => ∃ b, x = .func 147 [.ptr b 0] ∧ Ext h h' ∧ h.next ≤ unPa b ∧ Old h' b ∧ h'.get b = .ofL [.func f []] 0 false := by
  refine c87_ctr rfl (wpK_of ?_)
  unfold c87
  simp +contextual only [↓wA, wC, Ex.ends, evR, oneOf, top, ↓reduceIte, Nat.reduceEqDiff, Nat.reduceLeDiff, Nat.reduceAdd, Nat.reduceSub, Nat.reduceMul, reduceCtorEq, Int.reduceEq, Int.reduceLT, Int.reduceLE, Int.reduceNeg]
  exact ⟨_, rfl, (Ext.refl h).new _, by rw [unPa_pa]; exact Nat.le_refl _, old_self, if_pos rfl⟩
def esV (kvs : List (List UInt8 × V)) (n : Nat) : List ME :=
  match kvs with
  | [] => []
  | x :: l => ⟨.str x.1, x.2, n⟩ :: esV l (n + 1)
theorem putV_new {k : List UInt8} {v : V} {c : Nat} : ∀ (kvs : List (List UInt8 × V)) (n : Nat), (kvs.all fun x => !decide (k = x.1)) = true →
    putV KK.str.eq (.str k) v c (esV kvs n) = some (esV kvs n ++ [⟨.str k, v, c⟩], true)
  | [], _, _ => rfl
  | x :: l, n, h => by
    simp only [List.all_cons, Bool.and_eq_true, Bool.not_eq_true', decide_eq_false_iff_not] at h
    have ih := putV_new (k := k) (v := v) (c := c) l (n + 1) (by simpa using h.2)
    have hb : beqBytes k x.1 = false := by rw [beqBytes_dec]; exact decide_eq_false h.1
    simp only [esV, putV, KK.eq, eqStrC, hb, cond_false] at ih ⊢
    rw [ih]
    rfl
theorem esV_app : ∀ (kvs : List (List UInt8 × V)) (n : Nat) (k : List UInt8) (v : V), esV kvs n ++ [⟨.str k, v, n + kvs.length⟩] = esV (kvs ++ [(k, v)]) n
  | [], n, k, v => rfl
  | x :: l, n, k, v => by
    rw [esV, List.cons_append, List.cons_append, esV, ← esV_app l (n + 1) k v, List.length_cons]
    congr 4
    omega
theorem upd_new {h : Heap} {b : Pa} {l : List (List UInt8 × V)} {k : List UInt8} {v : V} (hg : h.get b = .mp (esV l 0) l.length) (hn : (l.all fun x => !decide (k = x.1)) = true) :
    updV KK.str.eq h (.map b) (.str k) v = some (h.set b (.mp (esV (l ++ [(k, v)]) 0) (l.length + 1))) := by
  have hp := putV_new (v := v) (c := l.length) l 0 hn
  simp only [updV, hg, Blk.onMap, hp, cond_true, Option.some.injEq]
  rw [← esV_app l 0 k v, Nat.zero_add]
def newKeysV : List (List UInt8 × V) → List (List UInt8 × V) → Bool
  | _, [] => true
  | l, x :: m => (l.all fun y => !decide (x.1 = y.1)) && newKeysV (l ++ [x]) m
def updOpV (t : Nat) (x : List UInt8 × V) : GO := ⟨none, .upd .str (.t t) (.c (.str x.1)) (.c x.2), none, [t]⟩
theorem updsV {t : Nat} {os : List GO} {ks : List KS} {Q : Ex → RF → Heap → Prop} {r : RF} {b : Pa} (hr : r t = .map b) : ∀ (m l : List (List UInt8 × V)) (h : Heap), newKeysV l m = true → h.get b = .mp (esV l 0) l.length →
    wpK Tryz.prog (.os none os :: ks) .normal r (if m = [] then h else h.set b (.mp (esV (l ++ m) 0) (l.length + m.length))) Q → wpK Tryz.prog (.os none (m.map (updOpV t) ++ os) :: ks) .normal r h Q
  | [], l, h, _, _, H => by simpa using H
  | x :: m, l, h, hn, hg, H => by
    simp only [newKeysV, Bool.and_eq_true] at hn
    rw [List.map_cons, List.cons_append]
    unfold updOpV
    rw [k_upd]
    have hu := upd_new (v := x.2) hg hn.1
    have e1 : (RX.t t).ev (r.trim [t]) = .map b := by rw [ev_t, trim_mem (by simp), hr]
    rw [e1, ev_c, ev_c, hu]
    show wpK Tryz.prog (.os none (m.map (updOpV t) ++ os) :: ks) .normal (r.set none .bad) (h.set b (.mp (esV (l ++ [x]) 0) (l.length + 1))) Q
    refine updsV hr m (l ++ [x]) _ hn.2 (by rw [get_set, if_pos rfl, List.length_append]; rfl) ?_
    rw [if_neg (by simp)] at H
    by_cases hm : m = []
    · subst hm
      simpa using H
    · rw [if_neg hm, set_set_same, List.append_assoc, List.singleton_append, List.length_append, show l.length + [x].length + m.length = l.length + (x :: m).length from by simp; omega]
      exact H
theorem upd_step {t : Nat} {x : RX} {rs : List Nat} {os : List GO} {ks : List KS} {Q : Ex → RF → Heap → Prop} {r : RF} {h : Heap} {b : Pa} {l : List (List UInt8 × V)} {k : List UInt8} {v : V} (hr : (r.trim rs) t = .map b) (hx : x.ev (r.trim rs) = v) (hg : h.get b = .mp (esV l 0) l.length) (hn : (l.all fun x => !decide (k = x.1)) = true)
    (H : wpK Tryz.prog (.os none os :: ks) .normal r (h.set b (.mp (esV (l ++ [(k, v)]) 0) (l.length + 1))) Q) : wpK Tryz.prog (.os none (⟨none, .upd .str (.t t) (.c (.str k)) x, none, rs⟩ :: os) :: ks) .normal r h Q := by
  rw [k_upd, ev_t, ev_c, hr, hx, upd_new hg hn]
  exact H
theorem find_esV {k : List UInt8} : ∀ (kvs : List (List UInt8 × V)) (n : Nat), findV KK.str.eq (.str k) (esV kvs n) = some ((kvs.find? fun x => decide (k = x.1)).map fun x => x.2)
  | [], _ => rfl
  | x :: l, n => by
    simp only [esV, findV, KK.eq, eqStrC, List.find?_cons]
    rw [beqBytes_dec]
    cases h : decide (k = x.1) with
    | true => rfl
    | false => exact find_esV l (n + 1)
def KV0 : List (List UInt8 × V) := []
def KV1 (b0 : Pa) : List (List UInt8 × V) := KV0  ++ [([97, 100, 100], .func 145 [.ptr b0 0])]
def KV2 (b0 b1 : Pa) : List (List UInt8 × V) := KV1 b0 ++ [([115, 117, 98], .func 145 [.ptr b1 0])]
def KV3 (b0 b1 b2 : Pa) : List (List UInt8 × V) := KV2 b0 b1 ++ [([109, 117, 108], .func 145 [.ptr b2 0])]
def KV4 (b0 b1 b2 b3 : Pa) : List (List UInt8 × V) := KV3 b0 b1 b2 ++ [([101, 113], .func 145 [.ptr b3 0])]
def KV5 (b0 b1 b2 b3 b4 : Pa) : List (List UInt8 × V) := KV4 b0 b1 b2 b3 ++ [([108, 116], .func 145 [.ptr b4 0])]
def KV6 (b0 b1 b2 b3 b4 b5 : Pa) : List (List UInt8 × V) := KV5 b0 b1 b2 b3 b4 ++ [([108, 101], .func 145 [.ptr b5 0])]
def KV7 (b0 b1 b2 b3 b4 b5 b6 : Pa) : List (List UInt8 × V) := KV6 b0 b1 b2 b3 b4 b5 ++ [([100, 105, 118], .func 147 [.ptr b6 0])]
def KV8 (b0 b1 b2 b3 b4 b5 b6 b7 : Pa) : List (List UInt8 × V) := KV7 b0 b1 b2 b3 b4 b5 b6 ++ [([109, 111, 100], .func 147 [.ptr b7 0])]
abbrev boxKvs (b0 b1 b2 b3 b4 b5 b6 b7 : Pa) := KV8 b0 b1 b2 b3 b4 b5 b6 b7
def funKvs : List (List UInt8 × V) := [([110, 101, 103], .func 90 []), ([103, 101, 116, 99], .func 91 []), ([112, 117, 116, 99], .func 92 []), ([112, 117, 116, 115], .func 93 []), ([115, 105, 122, 101], .func 94 []), ([99, 104, 114], .func 95 []), ([98, 121, 116, 101], .func 96 []), ([99, 117, 116], .func 97 []), ([106, 111, 105, 110], .func 98 []), ([115, 101, 116], .func 99 [])]
def DoesR (h : Heap) (pm : V) : Prop := ∃ b0 b1 b2 b3 b4 b5 b6 b7 b, pm = .map b ∧ Old h b ∧ h.get b = .mp (esV (boxKvs b0 b1 b2 b3 b4 b5 b6 b7 ++ funKvs) 0) 18 ∧ (Old h b0 ∧ h.get b0 = .ofL [.func 78 []] 0 false) ∧ (Old h b1 ∧ h.get b1 = .ofL [.func 81 []] 0 false) ∧ (Old h b2 ∧ h.get b2 = .ofL [.func 82 []] 0 false) ∧ (Old h b3 ∧ h.get b3 = .ofL [.func 83 []] 0 false) ∧ (Old h b4 ∧ h.get b4 = .ofL [.func 85 []] 0 false) ∧ (Old h b5 ∧ h.get b5 = .ofL [.func 86 []] 0 false) ∧ (Old h b6 ∧ h.get b6 = .ofL [.func 88 []] 0 false) ∧ (Old h b7 ∧ h.get b7 = .ofL [.func 89 []] 0 false)
set_option maxHeartbeats 4000000 in
theorem does_ctr (h : Heap) : Ctr Tryz.prog 58 [] h fun x h' => DoesR h' x ∧ Ext h h' := by
  refine c58_ctr rfl (wpK_of ?_)
  unfold c58
  simp +contextual only [↓wA, wC, Ex.ends, evR, oneOf, top, ↓reduceIte, Nat.reduceEqDiff, Nat.reduceLeDiff, Nat.reduceAdd, Nat.reduceSub, Nat.reduceMul, reduceCtorEq, Int.reduceEq, Int.reduceLT, Int.reduceLE, Int.reduceNeg]
  rw [show makeMapV none h = .val (.map (pa h.next)) (h.new (.mp [] 0)) from rfl, so_val]
  have x0 : Ext h (h.new (.mp [] 0)) := (Ext.refl h).new _
  have m0 : (h.new (.mp [] 0)).get (pa h.next) = .mp (esV KV0 0) 0 := get_new_self _
  have q0 : Old (h.new (.mp [] 0)) (pa h.next) := old_self
  generalize h.new (.mp [] 0) = g0 at *
  simp +contextual only [↓wA, wC, Ex.ends, evR, oneOf, top, ↓reduceIte, Nat.reduceEqDiff, Nat.reduceLeDiff, Nat.reduceAdd, Nat.reduceSub, Nat.reduceMul, reduceCtorEq, Int.reduceEq, Int.reduceLT, Int.reduceLE, Int.reduceNeg]
  refine callK_intro (two_box 78 g0) ?_
  rintro x k0 ⟨b0, rfl, y0, u0, o0, v0⟩
  have w0 : k0.get (pa h.next) = .mp (esV KV0 0) 0 := (y0.get _ q0).trans m0
  have d0 : updV KK.str.eq k0 (.map (pa h.next)) (.str [97, 100, 100]) (.func 145 [.ptr b0 0]) = some (k0.set (pa h.next) (.mp (esV (KV1 b0) 0) 1)) := upd_new (l := KV0) w0 (by rfl)
  simp +contextual only [d0, ↓wA, wC, Ex.ends, evR, oneOf, top, ↓reduceIte, Nat.reduceEqDiff, Nat.reduceLeDiff, Nat.reduceAdd, Nat.reduceSub, Nat.reduceMul, reduceCtorEq, Int.reduceEq, Int.reduceLT, Int.reduceLE, Int.reduceNeg]
  have m1 : (k0.set (pa h.next) (.mp (esV (KV1 b0) 0) 1)).get (pa h.next) = .mp (esV (KV1 b0) 0) 1 := by rw [get_set, if_pos rfl]
  have q1 : Old (k0.set (pa h.next) (.mp (esV (KV1 b0) 0) 1)) (pa h.next) := y0.old q0
  have x1 : Ext h (k0.set (pa h.next) (.mp (esV (KV1 b0) 0) 1)) := (x0.trans y0).set (Nat.le_refl _) _
  have r0 : b0 ≠ pa h.next := fun q => by rw [q] at u0; have := q0; unfold Old at this; omega
  have v0 : (k0.set (pa h.next) (.mp (esV (KV1 b0) 0) 1)).get b0 = .ofL [.func 78 []] 0 false := by rw [get_set, if_neg (fun q => r0 q.symm), v0]
  have z0 : Old (k0.set (pa h.next) (.mp (esV (KV1 b0) 0) 1)) b0 := o0
  clear w0 d0
  generalize k0.set (pa h.next) (.mp (esV (KV1 b0) 0) 1) = g1 at *
  refine callK_intro (two_box 81 g1) ?_
  rintro x k1 ⟨b1, rfl, y1, u1, o1, v1⟩
  have w1 : k1.get (pa h.next) = .mp (esV (KV1 b0) 0) 1 := (y1.get _ q1).trans m1
  have d1 : updV KK.str.eq k1 (.map (pa h.next)) (.str [115, 117, 98]) (.func 145 [.ptr b1 0]) = some (k1.set (pa h.next) (.mp (esV (KV2 b0 b1) 0) 2)) := upd_new (l := (KV1 b0)) w1 (by rfl)
  simp +contextual only [d1, ↓wA, wC, Ex.ends, evR, oneOf, top, ↓reduceIte, Nat.reduceEqDiff, Nat.reduceLeDiff, Nat.reduceAdd, Nat.reduceSub, Nat.reduceMul, reduceCtorEq, Int.reduceEq, Int.reduceLT, Int.reduceLE, Int.reduceNeg]
  have m2 : (k1.set (pa h.next) (.mp (esV (KV2 b0 b1) 0) 2)).get (pa h.next) = .mp (esV (KV2 b0 b1) 0) 2 := by rw [get_set, if_pos rfl]
  have q2 : Old (k1.set (pa h.next) (.mp (esV (KV2 b0 b1) 0) 2)) (pa h.next) := y1.old q1
  have x2 : Ext h (k1.set (pa h.next) (.mp (esV (KV2 b0 b1) 0) 2)) := (x1.trans y1).set (Nat.le_refl _) _
  have r1 : b1 ≠ pa h.next := fun q => by rw [q] at u1; have := q1; unfold Old at this; omega
  have o0 := y1.old z0
  have v0 : (k1.set (pa h.next) (.mp (esV (KV2 b0 b1) 0) 2)).get b0 = .ofL [.func 78 []] 0 false := by rw [get_set, if_neg (fun q => r0 q.symm), y1.get _ z0, v0]
  have v1 : (k1.set (pa h.next) (.mp (esV (KV2 b0 b1) 0) 2)).get b1 = .ofL [.func 81 []] 0 false := by rw [get_set, if_neg (fun q => r1 q.symm), v1]
  have z0 : Old (k1.set (pa h.next) (.mp (esV (KV2 b0 b1) 0) 2)) b0 := o0
  have z1 : Old (k1.set (pa h.next) (.mp (esV (KV2 b0 b1) 0) 2)) b1 := o1
  clear w1 d1
  generalize k1.set (pa h.next) (.mp (esV (KV2 b0 b1) 0) 2) = g2 at *
  refine callK_intro (two_box 82 g2) ?_
  rintro x k2 ⟨b2, rfl, y2, u2, o2, v2⟩
  have w2 : k2.get (pa h.next) = .mp (esV (KV2 b0 b1) 0) 2 := (y2.get _ q2).trans m2
  have d2 : updV KK.str.eq k2 (.map (pa h.next)) (.str [109, 117, 108]) (.func 145 [.ptr b2 0]) = some (k2.set (pa h.next) (.mp (esV (KV3 b0 b1 b2) 0) 3)) := upd_new (l := (KV2 b0 b1)) w2 (by rfl)
  simp +contextual only [d2, ↓wA, wC, Ex.ends, evR, oneOf, top, ↓reduceIte, Nat.reduceEqDiff, Nat.reduceLeDiff, Nat.reduceAdd, Nat.reduceSub, Nat.reduceMul, reduceCtorEq, Int.reduceEq, Int.reduceLT, Int.reduceLE, Int.reduceNeg]
  have m3 : (k2.set (pa h.next) (.mp (esV (KV3 b0 b1 b2) 0) 3)).get (pa h.next) = .mp (esV (KV3 b0 b1 b2) 0) 3 := by rw [get_set, if_pos rfl]
  have q3 : Old (k2.set (pa h.next) (.mp (esV (KV3 b0 b1 b2) 0) 3)) (pa h.next) := y2.old q2
  have x3 : Ext h (k2.set (pa h.next) (.mp (esV (KV3 b0 b1 b2) 0) 3)) := (x2.trans y2).set (Nat.le_refl _) _
  have r2 : b2 ≠ pa h.next := fun q => by rw [q] at u2; have := q2; unfold Old at this; omega
  have o0 := y2.old z0
  have v0 : (k2.set (pa h.next) (.mp (esV (KV3 b0 b1 b2) 0) 3)).get b0 = .ofL [.func 78 []] 0 false := by rw [get_set, if_neg (fun q => r0 q.symm), y2.get _ z0, v0]
  have o1 := y2.old z1
  have v1 : (k2.set (pa h.next) (.mp (esV (KV3 b0 b1 b2) 0) 3)).get b1 = .ofL [.func 81 []] 0 false := by rw [get_set, if_neg (fun q => r1 q.symm), y2.get _ z1, v1]
  have v2 : (k2.set (pa h.next) (.mp (esV (KV3 b0 b1 b2) 0) 3)).get b2 = .ofL [.func 82 []] 0 false := by rw [get_set, if_neg (fun q => r2 q.symm), v2]
  have z0 : Old (k2.set (pa h.next) (.mp (esV (KV3 b0 b1 b2) 0) 3)) b0 := o0
  have z1 : Old (k2.set (pa h.next) (.mp (esV (KV3 b0 b1 b2) 0) 3)) b1 := o1
  have z2 : Old (k2.set (pa h.next) (.mp (esV (KV3 b0 b1 b2) 0) 3)) b2 := o2
  clear w2 d2
  generalize k2.set (pa h.next) (.mp (esV (KV3 b0 b1 b2) 0) 3) = g3 at *
  refine callK_intro (two_box 83 g3) ?_
  rintro x k3 ⟨b3, rfl, y3, u3, o3, v3⟩
  have w3 : k3.get (pa h.next) = .mp (esV (KV3 b0 b1 b2) 0) 3 := (y3.get _ q3).trans m3
  have d3 : updV KK.str.eq k3 (.map (pa h.next)) (.str [101, 113]) (.func 145 [.ptr b3 0]) = some (k3.set (pa h.next) (.mp (esV (KV4 b0 b1 b2 b3) 0) 4)) := upd_new (l := (KV3 b0 b1 b2)) w3 (by rfl)
  simp +contextual only [d3, ↓wA, wC, Ex.ends, evR, oneOf, top, ↓reduceIte, Nat.reduceEqDiff, Nat.reduceLeDiff, Nat.reduceAdd, Nat.reduceSub, Nat.reduceMul, reduceCtorEq, Int.reduceEq, Int.reduceLT, Int.reduceLE, Int.reduceNeg]
  have m4 : (k3.set (pa h.next) (.mp (esV (KV4 b0 b1 b2 b3) 0) 4)).get (pa h.next) = .mp (esV (KV4 b0 b1 b2 b3) 0) 4 := by rw [get_set, if_pos rfl]
  have q4 : Old (k3.set (pa h.next) (.mp (esV (KV4 b0 b1 b2 b3) 0) 4)) (pa h.next) := y3.old q3
  have x4 : Ext h (k3.set (pa h.next) (.mp (esV (KV4 b0 b1 b2 b3) 0) 4)) := (x3.trans y3).set (Nat.le_refl _) _
  have r3 : b3 ≠ pa h.next := fun q => by rw [q] at u3; have := q3; unfold Old at this; omega
  have o0 := y3.old z0
  have v0 : (k3.set (pa h.next) (.mp (esV (KV4 b0 b1 b2 b3) 0) 4)).get b0 = .ofL [.func 78 []] 0 false := by rw [get_set, if_neg (fun q => r0 q.symm), y3.get _ z0, v0]
  have o1 := y3.old z1
  have v1 : (k3.set (pa h.next) (.mp (esV (KV4 b0 b1 b2 b3) 0) 4)).get b1 = .ofL [.func 81 []] 0 false := by rw [get_set, if_neg (fun q => r1 q.symm), y3.get _ z1, v1]
  have o2 := y3.old z2
  have v2 : (k3.set (pa h.next) (.mp (esV (KV4 b0 b1 b2 b3) 0) 4)).get b2 = .ofL [.func 82 []] 0 false := by rw [get_set, if_neg (fun q => r2 q.symm), y3.get _ z2, v2]
  have v3 : (k3.set (pa h.next) (.mp (esV (KV4 b0 b1 b2 b3) 0) 4)).get b3 = .ofL [.func 83 []] 0 false := by rw [get_set, if_neg (fun q => r3 q.symm), v3]
  have z0 : Old (k3.set (pa h.next) (.mp (esV (KV4 b0 b1 b2 b3) 0) 4)) b0 := o0
  have z1 : Old (k3.set (pa h.next) (.mp (esV (KV4 b0 b1 b2 b3) 0) 4)) b1 := o1
  have z2 : Old (k3.set (pa h.next) (.mp (esV (KV4 b0 b1 b2 b3) 0) 4)) b2 := o2
  have z3 : Old (k3.set (pa h.next) (.mp (esV (KV4 b0 b1 b2 b3) 0) 4)) b3 := o3
  clear w3 d3
  generalize k3.set (pa h.next) (.mp (esV (KV4 b0 b1 b2 b3) 0) 4) = g4 at *
  refine callK_intro (two_box 85 g4) ?_
  rintro x k4 ⟨b4, rfl, y4, u4, o4, v4⟩
  have w4 : k4.get (pa h.next) = .mp (esV (KV4 b0 b1 b2 b3) 0) 4 := (y4.get _ q4).trans m4
  have d4 : updV KK.str.eq k4 (.map (pa h.next)) (.str [108, 116]) (.func 145 [.ptr b4 0]) = some (k4.set (pa h.next) (.mp (esV (KV5 b0 b1 b2 b3 b4) 0) 5)) := upd_new (l := (KV4 b0 b1 b2 b3)) w4 (by rfl)
  simp +contextual only [d4, ↓wA, wC, Ex.ends, evR, oneOf, top, ↓reduceIte, Nat.reduceEqDiff, Nat.reduceLeDiff, Nat.reduceAdd, Nat.reduceSub, Nat.reduceMul, reduceCtorEq, Int.reduceEq, Int.reduceLT, Int.reduceLE, Int.reduceNeg]
  have m5 : (k4.set (pa h.next) (.mp (esV (KV5 b0 b1 b2 b3 b4) 0) 5)).get (pa h.next) = .mp (esV (KV5 b0 b1 b2 b3 b4) 0) 5 := by rw [get_set, if_pos rfl]
  have q5 : Old (k4.set (pa h.next) (.mp (esV (KV5 b0 b1 b2 b3 b4) 0) 5)) (pa h.next) := y4.old q4
  have x5 : Ext h (k4.set (pa h.next) (.mp (esV (KV5 b0 b1 b2 b3 b4) 0) 5)) := (x4.trans y4).set (Nat.le_refl _) _
  have r4 : b4 ≠ pa h.next := fun q => by rw [q] at u4; have := q4; unfold Old at this; omega
  have o0 := y4.old z0
  have v0 : (k4.set (pa h.next) (.mp (esV (KV5 b0 b1 b2 b3 b4) 0) 5)).get b0 = .ofL [.func 78 []] 0 false := by rw [get_set, if_neg (fun q => r0 q.symm), y4.get _ z0, v0]
  have o1 := y4.old z1
  have v1 : (k4.set (pa h.next) (.mp (esV (KV5 b0 b1 b2 b3 b4) 0) 5)).get b1 = .ofL [.func 81 []] 0 false := by rw [get_set, if_neg (fun q => r1 q.symm), y4.get _ z1, v1]
  have o2 := y4.old z2
  have v2 : (k4.set (pa h.next) (.mp (esV (KV5 b0 b1 b2 b3 b4) 0) 5)).get b2 = .ofL [.func 82 []] 0 false := by rw [get_set, if_neg (fun q => r2 q.symm), y4.get _ z2, v2]
  have o3 := y4.old z3
  have v3 : (k4.set (pa h.next) (.mp (esV (KV5 b0 b1 b2 b3 b4) 0) 5)).get b3 = .ofL [.func 83 []] 0 false := by rw [get_set, if_neg (fun q => r3 q.symm), y4.get _ z3, v3]
  have v4 : (k4.set (pa h.next) (.mp (esV (KV5 b0 b1 b2 b3 b4) 0) 5)).get b4 = .ofL [.func 85 []] 0 false := by rw [get_set, if_neg (fun q => r4 q.symm), v4]
  have z0 : Old (k4.set (pa h.next) (.mp (esV (KV5 b0 b1 b2 b3 b4) 0) 5)) b0 := o0
  have z1 : Old (k4.set (pa h.next) (.mp (esV (KV5 b0 b1 b2 b3 b4) 0) 5)) b1 := o1
  have z2 : Old (k4.set (pa h.next) (.mp (esV (KV5 b0 b1 b2 b3 b4) 0) 5)) b2 := o2
  have z3 : Old (k4.set (pa h.next) (.mp (esV (KV5 b0 b1 b2 b3 b4) 0) 5)) b3 := o3
  have z4 : Old (k4.set (pa h.next) (.mp (esV (KV5 b0 b1 b2 b3 b4) 0) 5)) b4 := o4
  clear w4 d4
  generalize k4.set (pa h.next) (.mp (esV (KV5 b0 b1 b2 b3 b4) 0) 5) = g5 at *
  refine callK_intro (two_box 86 g5) ?_
  rintro x k5 ⟨b5, rfl, y5, u5, o5, v5⟩
  have w5 : k5.get (pa h.next) = .mp (esV (KV5 b0 b1 b2 b3 b4) 0) 5 := (y5.get _ q5).trans m5
  have d5 : updV KK.str.eq k5 (.map (pa h.next)) (.str [108, 101]) (.func 145 [.ptr b5 0]) = some (k5.set (pa h.next) (.mp (esV (KV6 b0 b1 b2 b3 b4 b5) 0) 6)) := upd_new (l := (KV5 b0 b1 b2 b3 b4)) w5 (by rfl)
  simp +contextual only [d5, ↓wA, wC, Ex.ends, evR, oneOf, top, ↓reduceIte, Nat.reduceEqDiff, Nat.reduceLeDiff, Nat.reduceAdd, Nat.reduceSub, Nat.reduceMul, reduceCtorEq, Int.reduceEq, Int.reduceLT, Int.reduceLE, Int.reduceNeg]
  have m6 : (k5.set (pa h.next) (.mp (esV (KV6 b0 b1 b2 b3 b4 b5) 0) 6)).get (pa h.next) = .mp (esV (KV6 b0 b1 b2 b3 b4 b5) 0) 6 := by rw [get_set, if_pos rfl]
  have q6 : Old (k5.set (pa h.next) (.mp (esV (KV6 b0 b1 b2 b3 b4 b5) 0) 6)) (pa h.next) := y5.old q5
  have x6 : Ext h (k5.set (pa h.next) (.mp (esV (KV6 b0 b1 b2 b3 b4 b5) 0) 6)) := (x5.trans y5).set (Nat.le_refl _) _
  have r5 : b5 ≠ pa h.next := fun q => by rw [q] at u5; have := q5; unfold Old at this; omega
  have o0 := y5.old z0
  have v0 : (k5.set (pa h.next) (.mp (esV (KV6 b0 b1 b2 b3 b4 b5) 0) 6)).get b0 = .ofL [.func 78 []] 0 false := by rw [get_set, if_neg (fun q => r0 q.symm), y5.get _ z0, v0]
  have o1 := y5.old z1
  have v1 : (k5.set (pa h.next) (.mp (esV (KV6 b0 b1 b2 b3 b4 b5) 0) 6)).get b1 = .ofL [.func 81 []] 0 false := by rw [get_set, if_neg (fun q => r1 q.symm), y5.get _ z1, v1]
  have o2 := y5.old z2
  have v2 : (k5.set (pa h.next) (.mp (esV (KV6 b0 b1 b2 b3 b4 b5) 0) 6)).get b2 = .ofL [.func 82 []] 0 false := by rw [get_set, if_neg (fun q => r2 q.symm), y5.get _ z2, v2]
  have o3 := y5.old z3
  have v3 : (k5.set (pa h.next) (.mp (esV (KV6 b0 b1 b2 b3 b4 b5) 0) 6)).get b3 = .ofL [.func 83 []] 0 false := by rw [get_set, if_neg (fun q => r3 q.symm), y5.get _ z3, v3]
  have o4 := y5.old z4
  have v4 : (k5.set (pa h.next) (.mp (esV (KV6 b0 b1 b2 b3 b4 b5) 0) 6)).get b4 = .ofL [.func 85 []] 0 false := by rw [get_set, if_neg (fun q => r4 q.symm), y5.get _ z4, v4]
  have v5 : (k5.set (pa h.next) (.mp (esV (KV6 b0 b1 b2 b3 b4 b5) 0) 6)).get b5 = .ofL [.func 86 []] 0 false := by rw [get_set, if_neg (fun q => r5 q.symm), v5]
  have z0 : Old (k5.set (pa h.next) (.mp (esV (KV6 b0 b1 b2 b3 b4 b5) 0) 6)) b0 := o0
  have z1 : Old (k5.set (pa h.next) (.mp (esV (KV6 b0 b1 b2 b3 b4 b5) 0) 6)) b1 := o1
  have z2 : Old (k5.set (pa h.next) (.mp (esV (KV6 b0 b1 b2 b3 b4 b5) 0) 6)) b2 := o2
  have z3 : Old (k5.set (pa h.next) (.mp (esV (KV6 b0 b1 b2 b3 b4 b5) 0) 6)) b3 := o3
  have z4 : Old (k5.set (pa h.next) (.mp (esV (KV6 b0 b1 b2 b3 b4 b5) 0) 6)) b4 := o4
  have z5 : Old (k5.set (pa h.next) (.mp (esV (KV6 b0 b1 b2 b3 b4 b5) 0) 6)) b5 := o5
  clear w5 d5
  generalize k5.set (pa h.next) (.mp (esV (KV6 b0 b1 b2 b3 b4 b5) 0) 6) = g6 at *
  refine callK_intro (div_box 88 g6) ?_
  rintro x k6 ⟨b6, rfl, y6, u6, o6, v6⟩
  have w6 : k6.get (pa h.next) = .mp (esV (KV6 b0 b1 b2 b3 b4 b5) 0) 6 := (y6.get _ q6).trans m6
  have d6 : updV KK.str.eq k6 (.map (pa h.next)) (.str [100, 105, 118]) (.func 147 [.ptr b6 0]) = some (k6.set (pa h.next) (.mp (esV (KV7 b0 b1 b2 b3 b4 b5 b6) 0) 7)) := upd_new (l := (KV6 b0 b1 b2 b3 b4 b5)) w6 (by rfl)
  simp +contextual only [d6, ↓wA, wC, Ex.ends, evR, oneOf, top, ↓reduceIte, Nat.reduceEqDiff, Nat.reduceLeDiff, Nat.reduceAdd, Nat.reduceSub, Nat.reduceMul, reduceCtorEq, Int.reduceEq, Int.reduceLT, Int.reduceLE, Int.reduceNeg]
  have m7 : (k6.set (pa h.next) (.mp (esV (KV7 b0 b1 b2 b3 b4 b5 b6) 0) 7)).get (pa h.next) = .mp (esV (KV7 b0 b1 b2 b3 b4 b5 b6) 0) 7 := by rw [get_set, if_pos rfl]
  have q7 : Old (k6.set (pa h.next) (.mp (esV (KV7 b0 b1 b2 b3 b4 b5 b6) 0) 7)) (pa h.next) := y6.old q6
  have x7 : Ext h (k6.set (pa h.next) (.mp (esV (KV7 b0 b1 b2 b3 b4 b5 b6) 0) 7)) := (x6.trans y6).set (Nat.le_refl _) _
  have r6 : b6 ≠ pa h.next := fun q => by rw [q] at u6; have := q6; unfold Old at this; omega
  have o0 := y6.old z0
  have v0 : (k6.set (pa h.next) (.mp (esV (KV7 b0 b1 b2 b3 b4 b5 b6) 0) 7)).get b0 = .ofL [.func 78 []] 0 false := by rw [get_set, if_neg (fun q => r0 q.symm), y6.get _ z0, v0]
  have o1 := y6.old z1
  have v1 : (k6.set (pa h.next) (.mp (esV (KV7 b0 b1 b2 b3 b4 b5 b6) 0) 7)).get b1 = .ofL [.func 81 []] 0 false := by rw [get_set, if_neg (fun q => r1 q.symm), y6.get _ z1, v1]
  have o2 := y6.old z2
  have v2 : (k6.set (pa h.next) (.mp (esV (KV7 b0 b1 b2 b3 b4 b5 b6) 0) 7)).get b2 = .ofL [.func 82 []] 0 false := by rw [get_set, if_neg (fun q => r2 q.symm), y6.get _ z2, v2]
  have o3 := y6.old z3
  have v3 : (k6.set (pa h.next) (.mp (esV (KV7 b0 b1 b2 b3 b4 b5 b6) 0) 7)).get b3 = .ofL [.func 83 []] 0 false := by rw [get_set, if_neg (fun q => r3 q.symm), y6.get _ z3, v3]
  have o4 := y6.old z4
  have v4 : (k6.set (pa h.next) (.mp (esV (KV7 b0 b1 b2 b3 b4 b5 b6) 0) 7)).get b4 = .ofL [.func 85 []] 0 false := by rw [get_set, if_neg (fun q => r4 q.symm), y6.get _ z4, v4]
  have o5 := y6.old z5
  have v5 : (k6.set (pa h.next) (.mp (esV (KV7 b0 b1 b2 b3 b4 b5 b6) 0) 7)).get b5 = .ofL [.func 86 []] 0 false := by rw [get_set, if_neg (fun q => r5 q.symm), y6.get _ z5, v5]
  have v6 : (k6.set (pa h.next) (.mp (esV (KV7 b0 b1 b2 b3 b4 b5 b6) 0) 7)).get b6 = .ofL [.func 88 []] 0 false := by rw [get_set, if_neg (fun q => r6 q.symm), v6]
  have z0 : Old (k6.set (pa h.next) (.mp (esV (KV7 b0 b1 b2 b3 b4 b5 b6) 0) 7)) b0 := o0
  have z1 : Old (k6.set (pa h.next) (.mp (esV (KV7 b0 b1 b2 b3 b4 b5 b6) 0) 7)) b1 := o1
  have z2 : Old (k6.set (pa h.next) (.mp (esV (KV7 b0 b1 b2 b3 b4 b5 b6) 0) 7)) b2 := o2
  have z3 : Old (k6.set (pa h.next) (.mp (esV (KV7 b0 b1 b2 b3 b4 b5 b6) 0) 7)) b3 := o3
  have z4 : Old (k6.set (pa h.next) (.mp (esV (KV7 b0 b1 b2 b3 b4 b5 b6) 0) 7)) b4 := o4
  have z5 : Old (k6.set (pa h.next) (.mp (esV (KV7 b0 b1 b2 b3 b4 b5 b6) 0) 7)) b5 := o5
  have z6 : Old (k6.set (pa h.next) (.mp (esV (KV7 b0 b1 b2 b3 b4 b5 b6) 0) 7)) b6 := o6
  clear w6 d6
  generalize k6.set (pa h.next) (.mp (esV (KV7 b0 b1 b2 b3 b4 b5 b6) 0) 7) = g7 at *
  refine callK_intro (div_box 89 g7) ?_
  rintro x k7 ⟨b7, rfl, y7, u7, o7, v7⟩
  have w7 : k7.get (pa h.next) = .mp (esV (KV7 b0 b1 b2 b3 b4 b5 b6) 0) 7 := (y7.get _ q7).trans m7
  have d7 : updV KK.str.eq k7 (.map (pa h.next)) (.str [109, 111, 100]) (.func 147 [.ptr b7 0]) = some (k7.set (pa h.next) (.mp (esV (KV8 b0 b1 b2 b3 b4 b5 b6 b7) 0) 8)) := upd_new (l := (KV7 b0 b1 b2 b3 b4 b5 b6)) w7 (by rfl)
  refine upd_step (b := pa h.next) (l := (KV7 b0 b1 b2 b3 b4 b5 b6)) (v := .func 147 [.ptr b7 0]) (by simp only [↓wA, wC, ↓reduceIte, Nat.reduceEqDiff, reduceCtorEq]) (by simp only [↓wA, wC, ↓reduceIte, Nat.reduceEqDiff, reduceCtorEq]) w7 (by rfl) ?_
  show wpK _ _ _ _ (k7.set (pa h.next) (.mp (esV (KV8 b0 b1 b2 b3 b4 b5 b6 b7) 0) 8)) _
  have m8 : (k7.set (pa h.next) (.mp (esV (KV8 b0 b1 b2 b3 b4 b5 b6 b7) 0) 8)).get (pa h.next) = .mp (esV (KV8 b0 b1 b2 b3 b4 b5 b6 b7) 0) 8 := by rw [get_set, if_pos rfl]
  have q8 : Old (k7.set (pa h.next) (.mp (esV (KV8 b0 b1 b2 b3 b4 b5 b6 b7) 0) 8)) (pa h.next) := y7.old q7
  have x8 : Ext h (k7.set (pa h.next) (.mp (esV (KV8 b0 b1 b2 b3 b4 b5 b6 b7) 0) 8)) := (x7.trans y7).set (Nat.le_refl _) _
  have r7 : b7 ≠ pa h.next := fun q => by rw [q] at u7; have := q7; unfold Old at this; omega
  have o0 := y7.old z0
  have v0 : (k7.set (pa h.next) (.mp (esV (KV8 b0 b1 b2 b3 b4 b5 b6 b7) 0) 8)).get b0 = .ofL [.func 78 []] 0 false := by rw [get_set, if_neg (fun q => r0 q.symm), y7.get _ z0, v0]
  have o1 := y7.old z1
  have v1 : (k7.set (pa h.next) (.mp (esV (KV8 b0 b1 b2 b3 b4 b5 b6 b7) 0) 8)).get b1 = .ofL [.func 81 []] 0 false := by rw [get_set, if_neg (fun q => r1 q.symm), y7.get _ z1, v1]
  have o2 := y7.old z2
  have v2 : (k7.set (pa h.next) (.mp (esV (KV8 b0 b1 b2 b3 b4 b5 b6 b7) 0) 8)).get b2 = .ofL [.func 82 []] 0 false := by rw [get_set, if_neg (fun q => r2 q.symm), y7.get _ z2, v2]
  have o3 := y7.old z3
  have v3 : (k7.set (pa h.next) (.mp (esV (KV8 b0 b1 b2 b3 b4 b5 b6 b7) 0) 8)).get b3 = .ofL [.func 83 []] 0 false := by rw [get_set, if_neg (fun q => r3 q.symm), y7.get _ z3, v3]
  have o4 := y7.old z4
  have v4 : (k7.set (pa h.next) (.mp (esV (KV8 b0 b1 b2 b3 b4 b5 b6 b7) 0) 8)).get b4 = .ofL [.func 85 []] 0 false := by rw [get_set, if_neg (fun q => r4 q.symm), y7.get _ z4, v4]
  have o5 := y7.old z5
  have v5 : (k7.set (pa h.next) (.mp (esV (KV8 b0 b1 b2 b3 b4 b5 b6 b7) 0) 8)).get b5 = .ofL [.func 86 []] 0 false := by rw [get_set, if_neg (fun q => r5 q.symm), y7.get _ z5, v5]
  have o6 := y7.old z6
  have v6 : (k7.set (pa h.next) (.mp (esV (KV8 b0 b1 b2 b3 b4 b5 b6 b7) 0) 8)).get b6 = .ofL [.func 88 []] 0 false := by rw [get_set, if_neg (fun q => r6 q.symm), y7.get _ z6, v6]
  have v7 : (k7.set (pa h.next) (.mp (esV (KV8 b0 b1 b2 b3 b4 b5 b6 b7) 0) 8)).get b7 = .ofL [.func 89 []] 0 false := by rw [get_set, if_neg (fun q => r7 q.symm), v7]
  have z0 : Old (k7.set (pa h.next) (.mp (esV (KV8 b0 b1 b2 b3 b4 b5 b6 b7) 0) 8)) b0 := o0
  have z1 : Old (k7.set (pa h.next) (.mp (esV (KV8 b0 b1 b2 b3 b4 b5 b6 b7) 0) 8)) b1 := o1
  have z2 : Old (k7.set (pa h.next) (.mp (esV (KV8 b0 b1 b2 b3 b4 b5 b6 b7) 0) 8)) b2 := o2
  have z3 : Old (k7.set (pa h.next) (.mp (esV (KV8 b0 b1 b2 b3 b4 b5 b6 b7) 0) 8)) b3 := o3
  have z4 : Old (k7.set (pa h.next) (.mp (esV (KV8 b0 b1 b2 b3 b4 b5 b6 b7) 0) 8)) b4 := o4
  have z5 : Old (k7.set (pa h.next) (.mp (esV (KV8 b0 b1 b2 b3 b4 b5 b6 b7) 0) 8)) b5 := o5
  have z6 : Old (k7.set (pa h.next) (.mp (esV (KV8 b0 b1 b2 b3 b4 b5 b6 b7) 0) 8)) b6 := o6
  have z7 : Old (k7.set (pa h.next) (.mp (esV (KV8 b0 b1 b2 b3 b4 b5 b6 b7) 0) 8)) b7 := o7
  clear w7 d7
  generalize k7.set (pa h.next) (.mp (esV (KV8 b0 b1 b2 b3 b4 b5 b6 b7) 0) 8) = g8 at *
  refine updsV (t := 1) (b := pa h.next) (by simp only [↓wA, wC, ↓reduceIte, Nat.reduceEqDiff, reduceCtorEq]) funKvs (boxKvs b0 b1 b2 b3 b4 b5 b6 b7) g8 (by rfl) m8 ?_
  rw [if_neg (by decide)]
  simp +contextual only [↓wA, wC, Ex.ends, evR, oneOf, top, ↓reduceIte, Nat.reduceEqDiff, Nat.reduceLeDiff, Nat.reduceAdd, Nat.reduceSub, Nat.reduceMul, reduceCtorEq, Int.reduceEq, Int.reduceLT, Int.reduceLE, Int.reduceNeg]
  refine ⟨⟨b0, b1, b2, b3, b4, b5, b6, b7, pa h.next, rfl, q8, by rw [get_set, if_pos rfl]; rfl, ⟨z0, by rw [get_set, if_neg (fun q => r0 q.symm), v0]⟩, ⟨z1, by rw [get_set, if_neg (fun q => r1 q.symm), v1]⟩, ⟨z2, by rw [get_set, if_neg (fun q => r2 q.symm), v2]⟩, ⟨z3, by rw [get_set, if_neg (fun q => r3 q.symm), v3]⟩, ⟨z4, by rw [get_set, if_neg (fun q => r4 q.symm), v4]⟩, ⟨z5, by rw [get_set, if_neg (fun q => r5 q.symm), v5]⟩, ⟨z6, by rw [get_set, if_neg (fun q => r6 q.symm), v6]⟩, ⟨z7, by rw [get_set, if_neg (fun q => r7 q.symm), v7]⟩⟩, x8.set (Nat.le_refl _) _⟩
end Go.Proofs.YtjbiefneffiogaaGreat

namespace Go.Proofs.YtjbiefneffiogaaGreat
open Go Am
theorem look_does {h : Heap} {b : Pa} {kvs : List (List UInt8 × V)} {c : Nat} (hg : h.get b = .mp (esV kvs 0) c) (s : List UInt8) {v : V} (hf : ((kvs.find? fun x => decide (s = x.1)).map fun x => x.2) = some v) : lookupV KK.str.eq .nilfunc false h (.map b) (.str s) = some v := by
  simp only [lookupV, mapSee, hg, Blk.onMap, find_esV, cond_false, hf]
theorem len1 {js : List Nat} (h : (js.length : Int) = 1) : ∃ j0, js = [j0] := by
  match js, h with
  | [a], _ => exact ⟨a, rfl⟩
  | [], h => simp at h
  | _ :: _ :: _, h => simp only [List.length_cons] at h; omega
theorem len2 {js : List Nat} (h : (js.length : Int) = 2) : ∃ j0 j1, js = [j0, j1] := by
  match js, h with
  | [a, b], _ => exact ⟨a, b, rfl⟩
  | [], h => simp at h
  | [_], h => simp at h
  | _ :: _ :: _ :: _, h => simp only [List.length_cons] at h; omega
theorem len3 {js : List Nat} (h : (js.length : Int) = 3) : ∃ j0 j1 j2, js = [j0, j1, j2] := by
  match js, h with
  | [a, b, c], _ => exact ⟨a, b, c, rfl⟩
  | [], h => simp at h
  | [_], h => simp at h
  | [_, _], h => simp at h
  | _ :: _ :: _ :: _ :: _, h => simp only [List.length_cons] at h; omega
section
variable {h0 h h' : Heap} {mb : Pa} {K : Ks} {ad : List Pa} {inp pm : V} {S : St} {steps : Int} {cp ep vw vo : V}
theorem prim_ctr (D : DoesR h0 pm) (M : PM h0 h mb K ad inp pm S steps) (O : Ok S) {inpl : List UInt8} (Hin : SlV h0 1 inp inpl.length (bytesV inpl)) (hlen : inpl.length ≤ 1073741824) (hrd : S.read ≤ inpl.length)
    {js : List Nat} {vl : V} (A : ArgsR h ad js vl) {s : List UInt8} (hs : (js.length : Int) = takes s) (h1 : 0 < takes s) :
    ∃ f cs, lookupV KK.str.eq .nilfunc false h pm (.str s) = some (.func f cs) ∧ Ctr Tryz.prog f ([.ptr mb 0, vl] ++ cs) h fun x h' => ∃ K' ad', PM h0 h' mb K' ad' inp pm (S.prim inpl s js) steps := by
  obtain ⟨b0, b1, b2, b3, b4, b5, b6, b7, b, rfl, ob, gb, ⟨o0, g0⟩, ⟨o1, g1⟩, ⟨o2, g2⟩, ⟨o3, g3⟩, ⟨o4, g4⟩, ⟨o5, g5⟩, ⟨o6, g6⟩, ⟨o7, g7⟩⟩ := D
  have E : Ext h0 h := by obtain ⟨_, _, _, _, M⟩ := M; exact M.rep.ext
  have gb' := (E.get _ ob).trans gb
  by_cases h2 : s ∈ prims2
  · have ht : takes s = 2 := by unfold takes; rw [if_pos h2]
    rw [ht] at hs
    obtain ⟨j0, j1, rfl⟩ := len2 hs
    simp only [prims2, List.mem_cons, List.not_mem_nil, or_false] at h2
    rcases h2 with rfl | rfl | rfl | rfl | rfl | rfl | rfl | rfl | rfl | rfl | rfl
    · exact ⟨145, [.ptr b0 0], look_does gb' _ rfl, two_ctr M O A (fun a b => .int (wr (a + b))) g0 o0 l_add⟩
    · exact ⟨145, [.ptr b1 0], look_does gb' _ rfl, two_ctr M O A (fun a b => .int (wr (a - b))) g1 o1 l_sub⟩
    · exact ⟨145, [.ptr b2 0], look_does gb' _ rfl, two_ctr M O A (fun a b => .int (wr (a * b))) g2 o2 l_mul⟩
    · exact ⟨147, [.ptr b6 0], look_does gb' _ rfl, divides_ctr M O A (fun a b => a.tdiv b) g6 o6 l_div⟩
    · exact ⟨147, [.ptr b7 0], look_does gb' _ rfl, divides_ctr M O A (fun a b => a.tmod b) g7 o7 l_mod⟩
    · exact ⟨145, [.ptr b3 0], look_does gb' _ rfl, two_ctr M O A (fun a b => St.truthV (decide (a = b))) g3 o3 l_eq⟩
    · exact ⟨145, [.ptr b4 0], look_does gb' _ rfl, two_ctr M O A (fun a b => St.truthV (decide (a < b))) g4 o4 l_lt⟩
    · exact ⟨145, [.ptr b5 0], look_does gb' _ rfl, two_ctr M O A (fun a b => St.truthV (decide (a ≤ b))) g5 o5 l_le⟩
    · exact ⟨96, [], look_does gb' _ rfl, byteAt_ctr M O A⟩
    · exact ⟨98, [], look_does gb' _ rfl, join_ctr M O A⟩
    · exact ⟨99, [], look_does gb' _ rfl, set_ctr M O A⟩
  by_cases h3 : s ∈ prims1
  · have ht : takes s = 1 := by unfold takes; rw [if_neg h2, if_pos h3]
    rw [ht] at hs
    obtain ⟨j0, rfl⟩ := len1 hs
    simp only [prims1, List.mem_cons, List.not_mem_nil, or_false] at h3
    rcases h3 with rfl | rfl | rfl | rfl | rfl | rfl
    · exact ⟨90, [], look_does gb' _ rfl, neg_ctr M O A⟩
    · exact ⟨91, [], look_does gb' _ rfl, getc_ctr M O Hin hlen hrd⟩
    · exact ⟨92, [], look_does gb' _ rfl, putc_ctr M O A⟩
    · exact ⟨93, [], look_does gb' _ rfl, puts_ctr M O A⟩
    · exact ⟨94, [], look_does gb' _ rfl, size_ctr_ M O A⟩
    · exact ⟨95, [], look_does gb' _ rfl, chr_ctr M O A⟩
  by_cases h4 : s = [99, 117, 116]
  · subst h4
    have ht : takes [99, 117, 116] = 3 := by decide
    rw [ht] at hs
    obtain ⟨j0, j1, j2, rfl⟩ := len3 hs
    · exact ⟨97, [], look_does gb' _ rfl, cut_ctr M O A⟩
  · unfold takes at h1
    rw [if_neg h2, if_neg h3, if_neg h4] at h1
    omega
end
end Go.Proofs.YtjbiefneffiogaaGreat

namespace Go.Proofs.YtjbiefneffiogaaGreat
open Go Am
section
variable {h0 h h' : Heap} {mb : Pa} {K K' : Ks} {ad : List Pa} {inp pm : V} {S : St} {steps : Int} {cp ep vw vo : V}
theorem Rep.mods {Y : Sty} {st : List PV} (M : Rep Y h0 h K ad st) {P : Pa → Prop} (m : Mod P h h') (hP : ∀ b, P b → K b = .no ∧ h0.next ≤ unPa b) : Tr h0 K h ad K h' ad (fun _ => False) := by
  refine ⟨m.next, fun _ _ => rfl, fun _ q q' => absurd q q', fun b hb _ => m.get b (M.new b hb).2 fun q => hb (hP b q).1, fun b hb => m.get b (Nat.lt_of_lt_of_le hb M.ext.next) fun q => ?_, [], by simp⟩
  have := (hP b q).2
  omega
theorem PMach.mods (M : PMach h0 h mb K ad inp pm S steps cp ep vw vo) {P : Pa → Prop} (m : Mod P h h') (hP : ∀ b, P b → K b = .no ∧ h0.next ≤ unPa b) : PMach h0 h' mb K ad inp pm S steps cp ep vw vo := by
  refine M.tr (M.rep.mods m hP) ?_ ?_ ?_ ?_ ?_ ?_ <;> simp
theorem St.atoms_snoc (S : St) (l : List At) {i : Nat} (hi : i < l.length) : S.atoms (l.take (i + 1)) = ((((S.atoms (l.take i)).1).atom l[i]).1, (S.atoms (l.take i)).2 ++ [(((S.atoms (l.take i)).1).atom l[i]).2]) := by
  unfold St.atoms
  rw [List.take_succ_eq_append_getElem hi, List.foldl_append]
  rfl
theorem St.atom_e (S : St) (a : At) : (S.atom a).1.e = S.e ∧ (S.atom a).1.c = S.c ∧ (S.atom a).1.w = S.w ∧ (S.atom a).1.out = S.out ∧ (S.atom a).1.read = S.read := by
  unfold St.atom
  split
  · exact ⟨rfl, rfl, rfl, rfl, rfl⟩
  · split <;> exact ⟨rfl, rfl, rfl, rfl, rfl⟩
theorem St.atoms_e (S : St) (l : List At) : (S.atoms l).1.e = S.e ∧ (S.atoms l).1.c = S.c ∧ (S.atoms l).1.w = S.w ∧ (S.atoms l).1.out = S.out ∧ (S.atoms l).1.read = S.read ∧ (S.atoms l).2.length = l.length := by
  have key : ∀ (l : List At) (p : St × List Nat), (l.foldl St.atomsF p).1.e = p.1.e ∧ (l.foldl St.atomsF p).1.c = p.1.c ∧ (l.foldl St.atomsF p).1.w = p.1.w ∧ (l.foldl St.atomsF p).1.out = p.1.out ∧ (l.foldl St.atomsF p).1.read = p.1.read ∧ (l.foldl St.atomsF p).2.length = p.2.length + l.length := by
    intro l
    induction l with
    | nil => intro p; exact ⟨rfl, rfl, rfl, rfl, rfl, rfl⟩
    | cons a l ih =>
      intro p
      obtain ⟨a1, a2, a3, a4, a5, a6⟩ := ih (St.atomsF p a)
      obtain ⟨b1, b2, b3, b4, b5⟩ := St.atom_e p.1 a
      rw [List.foldl_cons]
      refine ⟨a1.trans b1, a2.trans b2, a3.trans b3, a4.trans b4, a5.trans b5, ?_⟩
      rw [a6]; simp only [St.atomsF, List.length_append, List.length_cons, List.length_nil]; omega
  have := key l (S, [])
  simpa [St.atoms] using this
set_option maxHeartbeats 2000000 in
theorem atoms_ctr (M : PMach h0 h mb K ad inp pm S steps cp ep vw vo) (hv : ∀ a ∈ S.c.a, a.k = 1 → a.n ∈ S.e.map Prod.fst) (hl : S.c.a.length ≤ 1048576) :
    Ctr Tryz.prog 100 [.ptr mb 0] h fun x h' => ∃ K' ad', PMach h0 h' mb K' ad' inp pm (S.atoms S.c.a).1 steps cp ep vw vo ∧ SlO h.next h' 1 x (S.atoms S.c.a).2.length ((S.atoms S.c.a).2.map (ptrA ad')) ∧ (∀ j ∈ (S.atoms S.c.a).2, j < ad'.length) ∧ ∀ b, x.blk b → K' b = .no := by
  obtain ⟨cb, co, va, vt, vl, rfl, Ha, Ht, Hl, ldc⟩ := M.co.open
  have M0e := M.rep.ext.next
  have gm := M.get
  have lc := ldc h M.rep.ext
  have hlen := Ha.len
  refine c100_ctr rfl (wpK_of ?_)
  unfold c100
  simp +contextual only [gm, lc.2.2.2.2.1, hlen, ↓wA, wC, Ex.ends, evR, oneOf, top, ↓reduceIte, Nat.reduceEqDiff, Nat.reduceLeDiff, Nat.reduceAdd, Nat.reduceSub, Nat.reduceMul, reduceCtorEq, Int.reduceEq, Int.reduceLT, Int.reduceLE, Int.reduceNeg]
  refine loopK_intro (fun r h' => r 0 = .ptr mb 0 ∧ r 12 = va ∧ r 13 = .int .i64 S.c.a.length ∧ ∃ i : Nat, r 14 = .int .i64 i ∧ i ≤ S.c.a.length ∧ ∃ K' ad' v, r 3 = v ∧ PMach h0 h' mb K' ad' inp pm (S.atoms (S.c.a.take i)).1 steps (.ptr cb co) ep vw vo ∧ h.next ≤ h'.next ∧
    SlO h.next h' 1 v i ((S.atoms (S.c.a.take i)).2.map (ptrA ad')) ∧ (∀ j ∈ (S.atoms (S.c.a.take i)).2, j < ad'.length) ∧ ∀ b, v.blk b → K' b = .no) (fun r h' => S.c.a.length - (r 14).toN) ?_ ?_
  · exact ⟨by simp only [↓wA, wC, ↓reduceIte, Nat.reduceEqDiff, reduceCtorEq], by simp only [↓wA, wC, ↓reduceIte, Nat.reduceEqDiff, reduceCtorEq], by simp only [↓wA, wC, ↓reduceIte, Nat.reduceEqDiff, reduceCtorEq], 0, by simp only [↓wA, wC, ↓reduceIte, Nat.reduceEqDiff, reduceCtorEq] <;> rfl, by omega, K, ad, .nilslice, by simp only [↓wA, wC, ↓reduceIte, Nat.reduceEqDiff, reduceCtorEq], M, Nat.le_refl _, ⟨rfl, rfl⟩, (by intro j q; cases q), fun b q => q.elim⟩
  · rintro r h' ⟨r0, r12, r13, i, r14, hi, K', ad', v, r3, M, hn, V1, V2, V3⟩
    unfold c100l1
    by_cases hlt : i < S.c.a.length
    · have g0 : ((i : Int) < (S.c.a.length : Int)) = True := eq_true (by omega)
      have Ha' := (Ha.ext M.rep.ext)
      obtain ⟨b, o, ia, ld, _⟩ := ats_at Ha' (k := .i64) hlt
      have w := w_inc hlt (by omega)
      obtain ⟨eE, eC, eW, eO, eR, eL⟩ := St.atoms_e S (S.c.a.take i)
      have hat := St.atoms_snoc S S.c.a hlt
      have hjl : (S.atoms (S.c.a.take i)).2.length = i := by rw [eL, List.length_take]; omega
      have hmem : S.c.a[i] ∈ S.c.a := List.getElem_mem hlt
      generalize hai : S.c.a[i] = a at *
      obtain ⟨ak, an, as_⟩ := a
      have hold : Old h' mb := M.old.2
      have nm : (pa h'.next = mb) = False := old_ne hold (Nat.le_refl _)
      have mn : (mb = pa h'.next) = False := new_ne hold (Nat.le_refl _)
      have hno : K' (pa h'.next) = .no := M.rep.tmp (by rw [unPa_pa]; exact Nat.le_refl _)
      have e1 : Ext h' (h'.new (.ofL [.int .i64 0, .int .i64 0, .str []] 0 false)) := (Ext.refl h').new _
      have M1 := (M.ext e1).tmp (b := pa h'.next) (k := .ofL [.int .i64 ak, .int .i64 an, .str as_] 0 false) hno (by rw [unPa_pa]; exact M.rep.ext.next)
      have E1 : Ext h' ((h'.new (.ofL [.int .i64 0, .int .i64 0, .str []] 0 false)).set (pa h'.next) (.ofL [.int .i64 ak, .int .i64 an, .str as_] 0 false)) := e1.set (Nat.le_refl _) _
      have enc : At.enc ⟨ak, an, as_⟩ = [.int .i64 ak, .int .i64 an, .str as_] := rfl
      rw [enc] at ld
      have V1' := V1.ext E1
      have G1 : ((h'.new (.ofL [.int .i64 0, .int .i64 0, .str []] 0 false)).set (pa h'.next) (.ofL [.int .i64 ak, .int .i64 an, .str as_] 0 false)).get (pa h'.next) = .ofL [.int .i64 ak, .int .i64 an, .str as_] 0 false := by rw [get_set, if_pos rfl]
      by_cases k1 : ak = 1
      · subst k1
        have gm1 := M1.get
        simp only [get_set, get_new] at gm1
        simp +contextual only [r0, r12, r13, r14, r3, g0, ia, ld, nm, mn, M.get, ↓wA, wC, Ex.ends, evR, oneOf, top, ↓reduceIte, Nat.reduceEqDiff, Nat.reduceLeDiff, Nat.reduceAdd, Nat.reduceSub, Nat.reduceMul, reduceCtorEq, Int.reduceEq, Int.reduceLT, Int.reduceLE, Int.reduceNeg]
        have hin : an ∈ S.e.map Prod.fst := hv ⟨1, an, as_⟩ hmem rfl
        rw [← eE] at hin
        refine callK_intro (find_ctr _ K' ad' an ep _ M1.er hin) ?_
        rintro x h2 ⟨rfl, rfl, hs⟩
        generalize hH : ((h'.new (.ofL [.int .i64 0, .int .i64 0, .str []] 0 false)).set (pa h'.next) (.ofL [.int .i64 1, .int .i64 an, .str as_] 0 false)) = H1 at *
        have hn1 := E1.next
        obtain ⟨v', h3, p1, p2, p3, p4, p5⟩ := app_one (cs := [.ptr (blkOf ad' (seek (S.atoms (S.c.a.take i)).1.e an)) 0]) (by omega) V1' (by omega) (by unfold top; omega) rfl rfl
        have gm2 := M1.get
        have ow := p2.v.one
        simp +contextual only [ptrA, r0, r12, r13, r14, r3, g0, ia, ld, nm, mn, M.get, gm2, G1, p1, w, ow.1, ow.2.1, ↓wA, wC, Ex.ends, evR, oneOf, top, ↓reduceIte, Nat.reduceEqDiff, Nat.reduceLeDiff, Nat.reduceAdd, Nat.reduceSub, Nat.reduceMul, reduceCtorEq, Int.reduceEq, Int.reduceLT, Int.reduceLE, Int.reduceNeg]
        rw [eE] at hs
        have hatom : (S.atoms (S.c.a.take i)).1.atom ⟨1, an, as_⟩ = ((S.atoms (S.c.a.take i)).1, seek S.e an) := by simp only [St.atom, if_true, eE]
        rw [hatom] at hat
        refine ⟨⟨i + 1, rfl, hlt, K', ad', ?_⟩, by omega⟩
        rw [hat]
        refine ⟨M1.mods p3 (fun b q => ⟨V3 b q, by have := V1.base q; have := M0e; omega⟩), by omega, ?_, ?_, ?_⟩
        · rw [List.map_append]; rw [eE] at p2; exact p2
        · intro j q
          rcases List.mem_append.1 q with q | q
          · exact V2 j q
          · simp only [List.mem_cons, List.not_mem_nil, or_false] at q; subst q; exact hs
        · intro b q
          rcases p5 b q with q | q
          · exact V3 b q
          · exact M1.rep.tmp (by omega)
      by_cases k2 : ak = 2
      · have k1' := eq_false k1; have k2' := eq_true k2
        have gm1 := M1.get
        simp only [get_set, get_new] at gm1
        simp +contextual only [r0, r12, r13, r14, r3, g0, ia, ld, nm, mn, k1', k2', M.get, ↓wA, wC, Ex.ends, evR, oneOf, top, ↓reduceIte, Nat.reduceEqDiff, Nat.reduceLeDiff, Nat.reduceAdd, Nat.reduceSub, Nat.reduceMul, reduceCtorEq, Int.reduceEq, Int.reduceLT, Int.reduceLE, Int.reduceNeg]
        refine callK_intro (num_ctr _ an) ?_
        rintro x h2 F
        generalize hH : ((h'.new (.ofL [.int .i64 0, .int .i64 0, .str []] 0 false)).set (pa h'.next) (.ofL [.int .i64 ak, .int .i64 an, .str as_] 0 false)) = H1 at *
        obtain ⟨K2, ad2, M2, rfl, hs, t⟩ := M1.make (v := .int an) F rfl
        obtain ⟨_, _, e2, _⟩ := F
        have hn1 := E1.next
        have hn2 := e2.next
        have V2' := V1'.ext e2
        rw [← t.ptrs V2] at V2'
        obtain ⟨v', h3, p1, p2, p3, p4, p5⟩ := app_one (cs := [.ptr (blkOf ad2 (S.atoms (S.c.a.take i)).1.st.length) 0]) (by omega) V2' (by omega) (by unfold top; omega) rfl rfl
        have gm2 := M2.get
        have ow := p2.v.one
        simp +contextual only [ptrA, r0, r12, r13, r14, r3, g0, ia, ld, nm, mn, M.get, gm2, G1, k1', k2', p1, w, ow.1, ow.2.1, ↓wA, wC, Ex.ends, evR, oneOf, top, ↓reduceIte, Nat.reduceEqDiff, Nat.reduceLeDiff, Nat.reduceAdd, Nat.reduceSub, Nat.reduceMul, reduceCtorEq, Int.reduceEq, Int.reduceLT, Int.reduceLE, Int.reduceNeg]
        have hatom : (S.atoms (S.c.a.take i)).1.atom ⟨ak, an, as_⟩ = ((S.atoms (S.c.a.take i)).1.mk_ (.int an), (S.atoms (S.c.a.take i)).1.st.length) := by
          simp only [St.atom, if_neg k1, if_pos k2]
        rw [hatom] at hat
        refine ⟨⟨i + 1, rfl, hlt, K2, ad2, ?_⟩, by omega⟩
        rw [hat]
        have V3' : ∀ b, v.blk b → K2 b = .no := fun b q => by
          by_cases q2 : K2 b = .no
          · exact q2
          · have := t.fresh b (V3 b q) q2
            have := V1'.v.old q
            unfold Old at this
            omega
        refine ⟨M2.mods p3 (fun b q => ⟨V3' b q, by have := V1.base q; have := M0e; omega⟩), by omega, ?_, ?_, ?_⟩
        · rw [List.map_append]; exact p2
        · intro j q
          rcases List.mem_append.1 q with q | q
          · exact Nat.lt_of_lt_of_le (V2 j q) t.len
          · simp only [List.mem_cons, List.not_mem_nil, or_false] at q; subst q; exact hs
        · intro b q
          rcases p5 b q with q | q
          · exact V3' b q
          · exact M2.rep.tmp (by omega)
      · have k1' := eq_false k1; have k2' := eq_false k2
        have gm1 := M1.get
        simp only [get_set, get_new] at gm1
        simp +contextual only [r0, r12, r13, r14, r3, g0, ia, ld, nm, mn, k1', k2', M.get, ↓wA, wC, Ex.ends, evR, oneOf, top, ↓reduceIte, Nat.reduceEqDiff, Nat.reduceLeDiff, Nat.reduceAdd, Nat.reduceSub, Nat.reduceMul, reduceCtorEq, Int.reduceEq, Int.reduceLT, Int.reduceLE, Int.reduceNeg]
        refine callK_intro (text_ctr _ as_) ?_
        rintro x h2 F
        generalize hH : ((h'.new (.ofL [.int .i64 0, .int .i64 0, .str []] 0 false)).set (pa h'.next) (.ofL [.int .i64 ak, .int .i64 an, .str as_] 0 false)) = H1 at *
        obtain ⟨K2, ad2, M2, rfl, hs, t⟩ := M1.make (v := .text as_) F rfl
        obtain ⟨_, _, e2, _⟩ := F
        have hn1 := E1.next
        have hn2 := e2.next
        have V2' := V1'.ext e2
        rw [← t.ptrs V2] at V2'
        obtain ⟨v', h3, p1, p2, p3, p4, p5⟩ := app_one (cs := [.ptr (blkOf ad2 (S.atoms (S.c.a.take i)).1.st.length) 0]) (by omega) V2' (by omega) (by unfold top; omega) rfl rfl
        have gm2 := M2.get
        have ow := p2.v.one
        simp +contextual only [ptrA, r0, r12, r13, r14, r3, g0, ia, ld, nm, mn, M.get, gm2, G1, k1', k2', p1, w, ow.1, ow.2.1, ↓wA, wC, Ex.ends, evR, oneOf, top, ↓reduceIte, Nat.reduceEqDiff, Nat.reduceLeDiff, Nat.reduceAdd, Nat.reduceSub, Nat.reduceMul, reduceCtorEq, Int.reduceEq, Int.reduceLT, Int.reduceLE, Int.reduceNeg]
        have hatom : (S.atoms (S.c.a.take i)).1.atom ⟨ak, an, as_⟩ = ((S.atoms (S.c.a.take i)).1.mk_ (.text as_), (S.atoms (S.c.a.take i)).1.st.length) := by
          simp only [St.atom, if_neg k1, if_neg k2]
        rw [hatom] at hat
        refine ⟨⟨i + 1, rfl, hlt, K2, ad2, ?_⟩, by omega⟩
        rw [hat]
        have V3' : ∀ b, v.blk b → K2 b = .no := fun b q => by
          by_cases q2 : K2 b = .no
          · exact q2
          · have := t.fresh b (V3 b q) q2
            have := V1'.v.old q
            unfold Old at this
            omega
        refine ⟨M2.mods p3 (fun b q => ⟨V3' b q, by have := V1.base q; have := M0e; omega⟩), by omega, ?_, ?_, ?_⟩
        · rw [List.map_append]; exact p2
        · intro j q
          rcases List.mem_append.1 q with q | q
          · exact Nat.lt_of_lt_of_le (V2 j q) t.len
          · simp only [List.mem_cons, List.not_mem_nil, or_false] at q; subst q; exact hs
        · intro b q
          rcases p5 b q with q | q
          · exact V3' b q
          · exact M2.rep.tmp (by omega)
    · have g0 : ((i : Int) < (S.c.a.length : Int)) = False := eq_false (by omega)
      obtain rfl : i = S.c.a.length := by omega
      rw [List.take_length] at M V1 V2
      simp +contextual only [r0, r12, r13, r14, r3, g0, ↓wA, wC, Ex.ends, evR, oneOf, top, ↓reduceIte, Nat.reduceEqDiff, Nat.reduceLeDiff, Nat.reduceAdd, Nat.reduceSub, Nat.reduceMul, reduceCtorEq, Int.reduceEq, Int.reduceLT, Int.reduceLE, Int.reduceNeg]
      obtain ⟨_, _, _, _, _, eL⟩ := St.atoms_e S S.c.a
      exact ⟨K', ad', M, by rw [eL]; exact V1, V2, V3⟩
end
end Go.Proofs.YtjbiefneffiogaaGreat

namespace Go.Proofs.YtjbiefneffiogaaGreat
open Go Am
section
variable {h0 h h' : Heap} {mb : Pa} {K K' : Ks} {ad : List Pa} {inp pm : V} {S : St} {steps : Int} {cp ep vw vo : V}
set_option maxHeartbeats 1000000 in
theorem call_ctr (M : PM h0 h mb K ad inp pm S steps) {f v : Nat} (hf : f < ad.length) (hv : v < ad.length) : Ctr Tryz.prog 104 [.ptr mb 0, ptrA ad f, ptrA ad v] h fun x h' => ∃ K' ad', PM h0 h' mb K' ad' inp pm (S.call f v) steps := by
  have M0 := M
  obtain ⟨cq, eq, wq, oq, M⟩ := M
  obtain ⟨fl, bp, kp, gv, kv, _, hfn⟩ := M.val hf
  have gm := M.get
  have pf : ptrA ad f = .ptr (blkOf ad f) 0 := rfl
  refine c104_ctr rfl (wpK_of ?_)
  unfold c104
  rw [pf]
  by_cases h3 : kindV (S.val f) = 3
  · cases hS : S.val f with
    | int n => rw [hS] at h3; cases h3
    | text n => rw [hS] at h3; cases h3
    | thing t l => rw [hS] at h3; cases h3
    | fn x c L =>
      obtain ⟨hc, he⟩ := hfn x c L hS
      rw [hS] at gv
      simp only [kindV, numV, strV] at gv
      have ob := hc.one
      have oe := he.one
      simp +contextual only [gm, gv, ob.1, ob.2.1, oe.1, oe.2.1, ↓wA, wC, Ex.ends, evR, oneOf, top, ↓reduceIte, Nat.reduceEqDiff, Nat.reduceLeDiff, Nat.reduceAdd, Nat.reduceSub, Nat.reduceMul, reduceCtorEq, Int.reduceEq, Int.reduceLT, Int.reduceLE, Int.reduceNeg]
      refine callK_intro (with_ctr h kp (ptrA ad v) x oe ⟨rfl, rfl, rfl⟩) ?_
      rintro y h1 ⟨b, rfl, e1, b1, b2, b3⟩
      obtain ⟨K', M1, E1, t⟩ := M.env e1 b1 b2 b3 he hv
      have gm1 := M1.get
      have gv1 := (e1.get _ (M.at_old hf).1).trans gv
      have ne : (mb = blkOf ad f) = False := eq_false fun q => (M.at_old hf).2 q.symm
      have M2 := M1.next { S with c := c } steps bp eq wq oq rfl hc M1.er M1.wr M1.ou
      have gm2 := M2.get
      have M3 := M2.next { S with c := c, e := (x, v) :: L } steps bp (.ptr b 0) wq oq rfl hc (E1.set M1.km (by simp)) M2.wr M2.ou
      simp +contextual only [gm, gm1, gm2, gv, gv1, ne, ob.1, ob.2.1, oe.1, oe.2.1, ↓wA, wC, Ex.ends, evR, oneOf, top, ↓reduceIte, Nat.reduceEqDiff, Nat.reduceLeDiff, Nat.reduceAdd, Nat.reduceSub, Nat.reduceMul, reduceCtorEq, Int.reduceEq, Int.reduceLT, Int.reduceLE, Int.reduceNeg]
      refine ⟨K', ad, ?_⟩
      simp only [St.call, hS]
      exact ⟨_, _, _, _, M3⟩
  · have h3' := eq_false h3
    simp +contextual only [gm, gv, h3', ↓wA, wC, Ex.ends, evR, oneOf, top, ↓reduceIte, Nat.reduceEqDiff, Nat.reduceLeDiff, Nat.reduceAdd, Nat.reduceSub, Nat.reduceMul, reduceCtorEq, Int.reduceEq, Int.reduceLT, Int.reduceLE, Int.reduceNeg]
    refine callK_intro (ends_ctr M0 6) ?_
    rintro y h1 M4
    simp +contextual only [↓wA, wC, Ex.ends, evR, oneOf, top, ↓reduceIte, Nat.reduceEqDiff, Nat.reduceLeDiff, Nat.reduceAdd, Nat.reduceSub, Nat.reduceMul, reduceCtorEq, Int.reduceEq, Int.reduceLT, Int.reduceLE, Int.reduceNeg]
    refine ⟨K, ad, ?_⟩
    have : S.call f v = S.trap := by
      simp only [St.call]
      cases hS : S.val f <;> first | rfl | (rw [hS] at h3; exact absurd rfl h3)
    rw [this]
    exact M4
def lastN (l : List Int) (n : Int) : Nat → Nat
  | 0 => l.length
  | i + 1 => if l[i]? = some n then i else lastN l n i
theorem lastN_eq {l : List Int} (hd : diff l = true) (n : Int) : lastN l n l.length = St.placeN l n := by
  have place_len : ∀ (l : List Int), n ∉ l → St.placeN l n = l.length := by
    intro l
    induction l with
    | nil => intro _; rfl
    | cons t l ih =>
      intro h
      simp only [List.mem_cons, not_or] at h
      simp only [St.placeN, if_neg (fun q : t = n => h.1 q.symm), ih h.2, List.length_cons]
  have none_ : ∀ (L : List Int) (k : Nat), n ∉ L → lastN L n k = L.length := by
    intro L k
    induction k with
    | zero => intro _; rfl
    | succ k ih =>
      intro h
      simp only [lastN]
      rw [if_neg (fun q => h (List.mem_of_getElem? q)), ih h]
  have at_ : ∀ (L : List Int) (p k : Nat), diff L = true → L[p]? = some n → p < k → k ≤ L.length → lastN L n k = p := by
    intro L p k hL hp
    induction k with
    | zero => intro h; omega
    | succ k ih =>
      intro h hk
      simp only [lastN]
      by_cases q : L[k]? = some n
      · rw [if_pos q]
        have inj : ∀ (L : List Int) (a b : Nat), diff L = true → L[a]? = some n → L[b]? = some n → a = b := by
          intro L
          induction L with
          | nil => intro a b _ h; simp at h
          | cons t L ih =>
            intro a b hd h1 h2
            simp only [diff, Bool.and_eq_true, Bool.not_eq_true'] at hd
            have hnot : Nat → t ∈ L → False := fun _ q => by have := List.contains_iff_mem.2 q; rw [hd.1] at this; cases this
            cases a with
            | zero =>
              cases b with
              | zero => rfl
              | succ b =>
                simp only [List.getElem?_cons_zero, Option.some.injEq] at h1
                subst h1
                exact (hnot 0 (List.mem_of_getElem? (by simpa using h2))).elim
            | succ a =>
              cases b with
              | zero =>
                simp only [List.getElem?_cons_zero, Option.some.injEq] at h2
                subst h2
                exact (hnot 0 (List.mem_of_getElem? (by simpa using h1))).elim
              | succ b => rw [ih a b hd.2 (by simpa using h1) (by simpa using h2)]
        exact inj L k p hL q hp
      · rw [if_neg q]
        exact ih (by
          by_cases e : p = k
          · subst e; exact absurd hp q
          · omega) (by omega)
  by_cases hm : n ∈ l
  · obtain ⟨p, hp⟩ := List.getElem?_of_mem hm
    have hpl : p < l.length := (List.getElem?_eq_some_iff.1 hp).1
    rw [at_ l p l.length hd hp hpl (Nat.le_refl _)]
    have : ∀ (l : List Int) (p : Nat), diff l = true → l[p]? = some n → St.placeN l n = p := by
      intro l
      induction l with
      | nil => intro p _ h; simp at h
      | cons t l ih =>
        intro p hd h
        simp only [diff, Bool.and_eq_true, Bool.not_eq_true'] at hd
        cases p with
        | zero =>
          simp only [List.getElem?_cons_zero, Option.some.injEq] at h
          simp only [St.placeN, if_pos h]
        | succ p =>
          have h' : l[p]? = some n := by simpa using h
          have : t ≠ n := by
            rintro rfl
            have := List.contains_iff_mem.2 (List.mem_of_getElem? h')
            rw [hd.1] at this; cases this
          simp only [St.placeN, if_neg this, ih p hd.2 h']
    exact (this l p hd hp).symm
  · rw [none_ l _ hm, place_len l hm]
set_option maxHeartbeats 1000000 in
theorem chooses_ctr (M : PM h0 h mb K ad inp pm S steps) {nums : Bool} {kd : Int} (hkd : kd = if nums then 1 else 4) {v : Nat} (hv : v < ad.length) (hd : diff S.c.t = true) (ht : S.c.t.length ≤ 1048576) (hl : S.c.l.length ≤ 1048577) :
    Ctr Tryz.prog 107 [.ptr mb 0, .int .i64 kd, ptrA ad v] h fun x h' => PM h0 h' mb K ad inp pm (S.chooses nums v) steps := by
  have M0 := M
  obtain ⟨cq, eq, wq, oq, M⟩ := M
  obtain ⟨fl, bp, kp, gv, kv, _, _⟩ := M.val hv
  obtain ⟨cb, co, va, vt, vl, rfl, Ha, Ht, Hl, ldc⟩ := M.co.open
  have gm := M.get
  have lc := ldc h M.rep.ext
  have ht1 := Ht.len
  have hl1 := Hl.len
  have pf : ptrA ad v = .ptr (blkOf ad v) 0 := rfl
  refine c107_ctr rfl (wpK_of ?_)
  unfold c107
  rw [pf]
  simp +contextual only [gm, lc.2.2.2.2.2.1, ht1, ↓wA, wC, Ex.ends, evR, oneOf, top, ↓reduceIte, Nat.reduceEqDiff, Nat.reduceLeDiff, Nat.reduceAdd, Nat.reduceSub, Nat.reduceMul, reduceCtorEq, Int.reduceEq, Int.reduceLT, Int.reduceLE, Int.reduceNeg]
  refine loopK_intro (fun r h' => h' = h ∧ r 0 = .ptr mb 0 ∧ r 1 = .int .i64 kd ∧ r 2 = .ptr (blkOf ad v) 0 ∧ r 23 = vt ∧ r 24 = .int .i64 S.c.t.length ∧ ∃ i : Nat, r 25 = .int .i64 i ∧ i ≤ S.c.t.length ∧ r 6 = .int .i64 (lastN S.c.t (numV (S.val v)) i)) (fun r h' => S.c.t.length - (r 25).toN) ?_ ?_
  · exact ⟨rfl, by simp only [↓wA, wC, ↓reduceIte, Nat.reduceEqDiff, reduceCtorEq], by simp only [↓wA, wC, ↓reduceIte, Nat.reduceEqDiff, reduceCtorEq], by simp only [↓wA, wC, ↓reduceIte, Nat.reduceEqDiff, reduceCtorEq], by simp only [↓wA, wC, ↓reduceIte, Nat.reduceEqDiff, reduceCtorEq], by simp only [↓wA, wC, ↓reduceIte, Nat.reduceEqDiff, reduceCtorEq], 0, by simp only [↓wA, wC, ↓reduceIte, Nat.reduceEqDiff, reduceCtorEq] <;> rfl, by omega, by simp only [↓wA, wC, ↓reduceIte, Nat.reduceEqDiff, reduceCtorEq] <;> rfl⟩
  · rintro r h' ⟨rfl, r0, r1, r2, r23, r24, i, r25, hi, r6⟩
    unfold c107l1
    by_cases hlt : i < S.c.t.length
    · have g0 : ((i : Int) < (S.c.t.length : Int)) = True := eq_true (by omega)
      obtain ⟨b2, o2, ia2, ld2⟩ := ints_at (Ht.ext M.rep.ext) (k := .i64) hlt
      have w := w_inc hlt (by omega)
      by_cases hq : S.c.t[i] = numV (S.val v)
      · have hq' := eq_true hq
        simp +contextual only [r0, r1, r2, r23, r24, r25, r6, g0, ia2, ld2, gv, hq', w, ↓wA, wC, Ex.ends, evR, oneOf, top, ↓reduceIte, Nat.reduceEqDiff, Nat.reduceLeDiff, Nat.reduceAdd, Nat.reduceSub, Nat.reduceMul, reduceCtorEq, Int.reduceEq, Int.reduceLT, Int.reduceLE, Int.reduceNeg]
        refine ⟨⟨i + 1, rfl, hlt, ?_⟩, by omega⟩
        simp only [lastN]
        rw [if_pos (by rw [List.getElem?_eq_getElem hlt, hq])]
      · have hq' := eq_false hq
        simp +contextual only [r0, r1, r2, r23, r24, r25, r6, g0, ia2, ld2, gv, hq', w, ↓wA, wC, Ex.ends, evR, oneOf, top, ↓reduceIte, Nat.reduceEqDiff, Nat.reduceLeDiff, Nat.reduceAdd, Nat.reduceSub, Nat.reduceMul, reduceCtorEq, Int.reduceEq, Int.reduceLT, Int.reduceLE, Int.reduceNeg]
        refine ⟨⟨i + 1, rfl, hlt, ?_⟩, by omega⟩
        simp only [lastN]
        rw [if_neg (by rw [List.getElem?_eq_getElem hlt]; simpa using hq)]
    · have g0 : ((i : Int) < (S.c.t.length : Int)) = False := eq_false (by omega)
      obtain rfl : i = S.c.t.length := by omega
      rw [lastN_eq hd] at r6
      generalize hp : St.placeN S.c.t (numV (S.val v)) = p at *
      by_cases hk : kindV (S.val v) = kd
      · have hk' := eq_true hk
        by_cases hlp : (S.c.l.length : Int) ≤ (p : Int)
        · have hlp' := eq_true hlp
          simp +contextual only [gm, lc.2.2.2.2.2.1, lc.2.2.2.2.2.2, hl1, r0, r1, r2, r23, r24, r25, r6, g0, gv, hk', hlp', ↓wA, wC, Ex.ends, evR, oneOf, top, ↓reduceIte, Nat.reduceEqDiff, Nat.reduceLeDiff, Nat.reduceAdd, Nat.reduceSub, Nat.reduceMul, reduceCtorEq, Int.reduceEq, Int.reduceLT, Int.reduceLE, Int.reduceNeg]
          refine callK_intro (ends_ctr M0 6) ?_
          rintro y h1 M4
          simp +contextual only [↓wA, wC, Ex.ends, evR, oneOf, top, ↓reduceIte, Nat.reduceEqDiff, Nat.reduceLeDiff, Nat.reduceAdd, Nat.reduceSub, Nat.reduceMul, reduceCtorEq, Int.reduceEq, Int.reduceLT, Int.reduceLE, Int.reduceNeg]
          have : S.chooses nums v = S.trap := by
            have hnone : S.goto_ p = S.trap := by simp only [St.goto_]; rw [List.getElem?_eq_none (by omega)]
            cases nums <;> simp only [Bool.false_eq_true, if_true, if_false] at hkd <;> subst hkd
            · obtain ⟨t, l, hS⟩ := kind_thing hk
              rw [hS] at hp; simp only [numV] at hp
              simp only [St.chooses, hS, hp, hnone, Bool.false_eq_true, if_false]
            · obtain ⟨t, hS⟩ := kind_int hk
              rw [hS] at hp; simp only [numV] at hp
              simp only [St.chooses, hS, hp, hnone, if_true]
          rw [this]
          exact M4
        · have hlp' := eq_false hlp
          obtain ⟨q, ia, hq⟩ := CoAt.kid Hl (k := .i64) (i := p) (by omega)
          have oq' := hq.one
          simp +contextual only [gm, lc.2.2.2.2.2.1, lc.2.2.2.2.2.2, hl1, r0, r1, r2, r23, r24, r25, r6, g0, gv, hk', hlp', ia, oq'.1, oq'.2.1, ↓wA, wC, Ex.ends, evR, oneOf, top, ↓reduceIte, Nat.reduceEqDiff, Nat.reduceLeDiff, Nat.reduceAdd, Nat.reduceSub, Nat.reduceMul, reduceCtorEq, Int.reduceEq, Int.reduceLT, Int.reduceLE, Int.reduceNeg]
          have : S.chooses nums v = { S with c := S.c.l[p] } := by
            have hsome : S.goto_ p = { S with c := S.c.l[p] } := by simp only [St.goto_]; rw [List.getElem?_eq_getElem (by omega)]
            cases nums <;> simp only [Bool.false_eq_true, if_true, if_false] at hkd <;> subst hkd
            · obtain ⟨t, l, hS⟩ := kind_thing hk
              rw [hS] at hp; simp only [numV] at hp
              simp only [St.chooses, hS, hp, hsome, Bool.false_eq_true, if_false]
            · obtain ⟨t, hS⟩ := kind_int hk
              rw [hS] at hp; simp only [numV] at hp
              simp only [St.chooses, hS, hp, hsome, if_true]
          rw [this]
          exact ⟨_, _, _, _, M.next { S with c := S.c.l[p] } steps q eq wq oq rfl hq M.er M.wr M.ou⟩
      · have hk' := eq_false hk
        simp +contextual only [gm, lc.2.2.2.2.2.1, lc.2.2.2.2.2.2, hl1, r0, r1, r2, r23, r24, r25, r6, g0, gv, hk', ↓wA, wC, Ex.ends, evR, oneOf, top, ↓reduceIte, Nat.reduceEqDiff, Nat.reduceLeDiff, Nat.reduceAdd, Nat.reduceSub, Nat.reduceMul, reduceCtorEq, Int.reduceEq, Int.reduceLT, Int.reduceLE, Int.reduceNeg]
        refine callK_intro (ends_ctr M0 6) ?_
        rintro y h1 M4
        simp +contextual only [↓wA, wC, Ex.ends, evR, oneOf, top, ↓reduceIte, Nat.reduceEqDiff, Nat.reduceLeDiff, Nat.reduceAdd, Nat.reduceSub, Nat.reduceMul, reduceCtorEq, Int.reduceEq, Int.reduceLT, Int.reduceLE, Int.reduceNeg]
        have : S.chooses nums v = S.trap := by
          cases nums <;> simp only [Bool.false_eq_true, if_true, if_false] at hkd <;> subst hkd <;>
            cases hS : S.val v <;> first | (simp only [St.chooses, hS] <;> rfl) | (rw [hS] at hk; exact (hk rfl).elim)
        rw [this]
        exact M4
end
end Go.Proofs.YtjbiefneffiogaaGreat

namespace Go.Proofs.YtjbiefneffiogaaGreat
open Go Am
theorem St.recMk_snoc (S : St) (l : List Co) {i : Nat} (hi : i < l.length) : S.recMk (l.take (i + 1)) = (S.recMk (l.take i)).recF l[i] := by
  unfold St.recMk
  rw [List.take_succ_eq_append_getElem hi, List.foldl_append]
  rfl
theorem St.recMk_e (S : St) (l : List Co) : (S.recMk l).c = S.c ∧ (S.recMk l).w = S.w ∧ (S.recMk l).out = S.out ∧ (S.recMk l).read = S.read ∧ (S.recMk l).st.length = S.st.length + l.length := by
  induction l generalizing S with
  | nil => exact ⟨rfl, rfl, rfl, rfl, rfl⟩
  | cons f l ih =>
    obtain ⟨a1, a2, a3, a4, a5⟩ := ih (S.recF f)
    refine ⟨a1, a2, a3, a4, ?_⟩
    show ((S.recF f).recMk l).st.length = _
    rw [a5]
    simp only [St.recF, St.mk_, List.length_append, List.length_cons, List.length_nil]
    omega
theorem St.recMk_at (S : St) (l : List Co) : ∀ (i : Nat) (hi : i < l.length), (S.recMk l).st[S.st.length + i]? = some (.fn l[i].x (l[i].l.headD l[i]) []) := by
  have pre : ∀ (l : List Co) (S : St) (j : Nat), j < S.st.length → (S.recMk l).st[j]? = S.st[j]? := by
    intro l
    induction l with
    | nil => intro S j _; rfl
    | cons f l ih =>
      intro S j hj
      show ((S.recF f).recMk l).st[j]? = _
      rw [ih (S.recF f) j (by simp only [St.recF, St.mk_, List.length_append]; omega)]
      simp only [St.recF, St.mk_]
      rw [List.getElem?_append_left hj]
  induction l generalizing S with
  | nil => intro i hi; simp at hi
  | cons f l ih =>
    intro i hi
    show ((S.recF f).recMk l).st[S.st.length + i]? = _
    cases i with
    | zero =>
      rw [pre l (S.recF f) _ (by simp only [St.recF, St.mk_, List.length_append, List.length_cons, List.length_nil]; omega)]
      simp [St.recF, St.mk_]
    | succ i =>
      have := ih (S.recF f) i (by simpa using hi)
      have hl : (S.recF f).st.length = S.st.length + 1 := by simp [St.recF, St.mk_]
      rw [hl] at this
      rw [show S.st.length + (i + 1) = S.st.length + 1 + i from by omega, this]
      rfl
theorem recSet_snoc (e : En) (f : Co) : ∀ (l : List Co) (a : Nat) (st : List PV), St.recSet e a st (l ++ [f]) = (St.recSet e a st l).set (a + l.length) (.fn f.x (f.l.headD f) e)
  | [], a, st => rfl
  | g :: l, a, st => by
    rw [List.cons_append, St.recSet, St.recSet, recSet_snoc e f l (a + 1), List.length_cons]
    congr 1
    omega
theorem recSet_later (e : En) : ∀ (l : List Co) (a : Nat) (st : List PV) (j : Nat), a + l.length ≤ j → (St.recSet e a st l)[j]? = st[j]?
  | [], a, st, j, _ => rfl
  | g :: l, a, st, j, h => by
    rw [List.length_cons] at h
    rw [St.recSet, recSet_later e l (a + 1) _ j (by omega), List.getElem?_set_ne (by omega)]
section
variable {h0 h h' : Heap} {mb : Pa} {K K' : Ks} {ad : List Pa} {inp pm : V} {S : St} {steps : Int} {cp ep vw vo : V}
theorem PMach.makeF (M : PMach h0 h mb K ad inp pm S steps cp ep vw vo) {x : Int} {bp kp y : V} {c : Co} {e : En} (F : Fresh h h' y [.int .i64 3, .int .i64 x, .str [], .nilslice, bp, kp, .bool false]) (hb : CoAt h0 bp c) (hk : EnvR h K ad kp e) :
    ∃ K' ad', PMach h0 h' mb K' ad' inp pm (S.mk_ (.fn x c e)) steps cp ep vw vo ∧ y = ptrA ad' S.st.length ∧ S.st.length < ad'.length ∧ Tr h0 K h ad K' h' ad' (fun _ => False) := by
  obtain ⟨b, rfl, e1, hbn, ho, hg⟩ := F
  have t := M.rep.role e1 (fun q => q = b) (.val S.st.length) [b] (fun q hq => by subst hq; exact ⟨hbn, ho⟩)
  have hbl : blkOf (ad ++ [b]) S.st.length = b := by
    unfold blkOf
    rw [List.getD_eq_getElem?_getD, List.getElem?_append_right (by rw [M.rep.len]; exact Nat.le_refl _), M.rep.len, Nat.sub_self]
    rfl
  have hR : Rep PY h0 h' (Kp K (fun q => q = b) (.val S.st.length)) (ad ++ [b]) (S.mk_ (.fn x c e)).st := by
    refine M.rep.push t (by simp) (by simp) (by simp) ?_
    exact ⟨by rw [hbl]; exact Kp_yes rfl, .nilslice, kp, _, by rw [hbl]; exact hg, ⟨bp, hb, rfl⟩, trivial, hk.tr t id⟩
  have hm : K mb ≠ .no := by rw [M.km]; simp
  have E := M.er.tr t id
  have W := M.wr.tr t id id
  have O := M.ou.tr t id
  refine ⟨_, _, ⟨hR, by rw [t.role mb hm, M.km], by rw [t.get mb hm id, M.get]; rfl, M.co, E, W, O⟩, by unfold ptrA; rw [hbl], by rw [List.length_append, M.rep.len]; simp, t⟩
theorem range_lt {n i : Nat} {ad : List Pa} (h : n + i ≤ ad.length) : ∀ j ∈ List.range' n i, j < ad.length := by
  intro j hj
  have := List.mem_range'_1.1 hj
  omega
set_option maxHeartbeats 4000000 in
theorem rec_ctr (M : PM h0 h mb K ad inp pm S steps) (hl2 : 1 ≤ S.c.l.length) (hl : S.c.l.length ≤ 1048577) (hk : ∀ f ∈ S.c.l.dropLast, 1 ≤ f.l.length) :
    Ctr Tryz.prog 105 [.ptr mb 0] h fun x h' => ∃ K' ad', PM h0 h' mb K' ad' inp pm S.rec_ steps := by
  obtain ⟨cq, eq, wq, oq, M⟩ := M
  obtain ⟨cb, co, va, vt, vl, rfl, Ha, Ht, Hl, ldc⟩ := M.co.open
  have gm := M.get
  have lc := ldc h M.rep.ext
  have hlen := Hl.len
  have hB := M.rep.ext.next
  have hdl : S.c.l.dropLast.length = S.c.l.length - 1 := List.length_dropLast
  have w1 : IntKind.i64.wrap ((S.c.l.length : Int) - 1) = ((S.c.l.dropLast.length : Nat) : Int) := by rw [wrap_i64 (by omega) (by omega)]; omega
  obtain ⟨vc, hc1, hc2⟩ := Hl.cut (k := .i64) (m := S.c.l.dropLast.length) (by omega)
  have hcl := hc2.len
  rw [List.length_take, Nat.min_eq_left (by omega)] at hcl
  generalize hfs : S.c.l.dropLast = fs at *
  refine c105_ctr rfl (wpK_of ?_)
  unfold c105
  simp +contextual only [gm, lc.2.2.2.2.2.2, hlen, w1, hc1, hcl, ↓wA, wC, Ex.ends, evR, oneOf, top, ↓reduceIte, Nat.reduceEqDiff, Nat.reduceLeDiff, Nat.reduceAdd, Nat.reduceSub, Nat.reduceMul, reduceCtorEq, Int.reduceEq, Int.reduceLT, Int.reduceLE, Int.reduceNeg]
  refine loopK_intro (fun r h' => r 0 = .ptr mb 0 ∧ r 2 = .int .i64 fs.length ∧ r 27 = .int .i64 fs.length ∧ ∃ i : Nat, r 28 = .int .i64 i ∧ i ≤ fs.length ∧ ∃ K' ad' ep', PMach h0 h' mb K' ad' inp pm (S.recMk (fs.take i)) steps (.ptr cb co) ep' wq oq ∧ h.next ≤ h'.next ∧
    SlO h.next h' 1 (r 3) i ((List.range' S.st.length i).map (ptrA ad')) ∧ ∀ b, (r 3).blk b → K' b = .no) (fun r h' => fs.length - (r 28).toN) ?_ ?_
  · exact ⟨by simp only [↓wA, wC, ↓reduceIte, Nat.reduceEqDiff, reduceCtorEq], by simp only [↓wA, wC, ↓reduceIte, Nat.reduceEqDiff, reduceCtorEq], by simp only [↓wA, wC, ↓reduceIte, Nat.reduceEqDiff, reduceCtorEq], 0, by simp only [↓wA, wC, ↓reduceIte, Nat.reduceEqDiff, reduceCtorEq] <;> rfl, by omega, K, ad, eq, M, Nat.le_refl _, by simp only [↓wA, wC, ↓reduceIte, Nat.reduceEqDiff, reduceCtorEq]; exact ⟨rfl, rfl⟩, by simp only [↓wA, wC, ↓reduceIte, Nat.reduceEqDiff, reduceCtorEq]; exact fun b q => q.elim⟩
  · rintro r h' ⟨r0, r2, r27, i, r28, hi, K', ad', ep', M, hn, V1, V3⟩
    unfold c105l1
    generalize hr3 : r 3 = v at *
    obtain ⟨rC, rW, rO, rR, rL⟩ := St.recMk_e S (fs.take i)
    have gm := M.get
    have lc := ldc h' M.rep.ext
    by_cases hlt : i < fs.length
    · have g0 : ((i : Int) < (fs.length : Int)) = True := eq_true (by omega)
      have w := w_inc hlt (by omega)
      have hsn := St.recMk_snoc S fs hlt
      have hfi : S.c.l[i]'(by omega) = fs[i] := by
        have : S.c.l.dropLast[i]? = fs[i]? := by rw [hfs]
        rw [List.getElem?_dropLast, if_pos (by omega), List.getElem?_eq_getElem (by omega), List.getElem?_eq_getElem hlt] at this
        simpa using this
      obtain ⟨fp, iaf, hf⟩ := CoAt.kid Hl (k := .i64) (i := i) (by omega)
      rw [hfi] at hf
      have hk1 := hk fs[i] (List.getElem_mem hlt)
      generalize fs[i] = f at *
      obtain ⟨fb, fo, fva, fvt, fvl, rfl, _, _, Hfl, ldf⟩ := hf.open
      obtain ⟨bp, iab, hb⟩ := CoAt.kid Hfl (k := .i64) (i := 0) (by omega)
      have iab' : iaV 7 fvl (.int .i64 0) = some bp := iab
      have obp := hb.one
      have lf := ldf h' M.rep.ext
      have hhd : f.l.headD f = f.l[0]'(by omega) := by
        rw [List.headD_eq_head?_getD, List.head?_eq_getElem?, List.getElem?_eq_getElem (by omega)]; rfl
      have F : Fresh h' (h'.new (.ofL [.int .i64 3, .int .i64 f.x, .str [], .nilslice, bp, .nilptr, .bool false] 0 false)) (.ptr (pa h'.next) 0) [.int .i64 3, .int .i64 f.x, .str [], .nilslice, bp, .nilptr, .bool false] := fresh_new _ _
      obtain ⟨K2, ad2, M2, hy, hs, t⟩ := M.makeF F hb .nil
      obtain ⟨_, _, e2, _⟩ := F
      have lf2 := ldf _ M2.rep.ext
      have lf2' := lf2
      simp only [get_new] at lf2'
      have lc2 := ldc _ M2.rep.ext
      have lc2' := lc2
      simp only [get_new] at lc2'
      have hadl : S.st.length + i ≤ ad'.length := by rw [M.rep.len, rL, List.length_take]; omega
      have V2 := V1.ext e2
      rw [← t.ptrs (range_lt hadl)] at V2
      rw [rL, List.length_take, Nat.min_eq_left (by omega)] at hy hs
      have hn2 := e2.next
      obtain ⟨v', h3, p1, p2, p3, p4, p5⟩ := app_one (cs := [.ptr (pa h'.next) 0]) (by omega) V2 (by omega) (by unfold top; omega) rfl rfl
      have V3' : ∀ b, v.blk b → K2 b = .no := fun b q => by
        by_cases q2 : K2 b = .no
        · exact q2
        · have := t.fresh b (V3 b q) q2
          have := V1.v.old q
          unfold Old at this
          omega
      have M3 := M2.mods p3 (fun b q => ⟨V3' b q, by have := V1.base q; omega⟩)
      have gm3 := M3.get
      have lf3 := ldf _ M3.rep.ext
      have p1' := p1
      simp only [next_new] at p1'
      simp +contextual only [r0, r2, r27, r28, hr3, g0, gm, lc.2.2.2.2.2.2, iaf, lf.1, lf.2.1, lf.2.2.1, lf.2.2.2.2.2.2, lf2'.2.1, lf2'.2.2.2.2.2.2, iab', obp.1, obp.2.1, obp.2.2, p1, p1', gm3, lf3.2.2.1, ↓wA, wC, Ex.ends, evR, oneOf, top, ↓reduceIte, Nat.reduceEqDiff, Nat.reduceLeDiff, Nat.reduceAdd, Nat.reduceSub, Nat.reduceMul, reduceCtorEq, Int.reduceEq, Int.reduceLT, Int.reduceLE, Int.reduceNeg]
      have W := with_ctr h3 ep' (ptrA ad2 (S.st.length + i)) f.n M3.er.one ⟨rfl, rfl, rfl⟩
      rw [← hy] at W
      refine callK_intro W ?_
      rintro y h4 ⟨b, rfl, e4, b1, b2, b3⟩
      rw [hy] at b3
      obtain ⟨K4, M4, E4, t4⟩ := M3.env e4 b1 b2 b3 M3.er hs
      have gm4 := M4.get
      have lf4 := ldf _ M4.rep.ext
      have hn3 := p4
      have hn4 := e4.next
      simp +contextual only [r0, r2, r27, r28, hr3, g0, gm4, lf4.2.2.1, gm3, lf3.2.2.1, w, ↓wA, wC, Ex.ends, evR, oneOf, top, ↓reduceIte, Nat.reduceEqDiff, Nat.reduceLeDiff, Nat.reduceAdd, Nat.reduceSub, Nat.reduceMul, reduceCtorEq, Int.reduceEq, Int.reduceLT, Int.reduceLE, Int.reduceNeg]
      refine ⟨⟨i + 1, rfl, hlt, K4, ad2, .ptr b 0, ?_, by omega, ?_, ?_⟩, by omega⟩
      · rw [hsn]
        have hlenT : (S.recMk (fs.take i)).st.length = S.st.length + i := by rw [rL, List.length_take]; omega
        have := M4.next ((S.recMk (fs.take i)).recF f) steps (.ptr cb co) (.ptr b 0) wq oq (by simp only [St.recF, St.mk_, hhd]) M4.co (by simp only [St.recF]; rw [hlenT]; exact E4) M4.wr M4.ou
        exact this
      · rw [List.range'_1_concat, List.map_append]
        have m : Mod (fun b => b = mb) h4 (h4.set mb (.ofL [inp, .int .i64 (S.recMk (fs.take i)).en, .int .i64 (S.recMk (fs.take i)).exn, .int .i64 (S.recMk (fs.take i)).read, .int .i64 steps, oq, .bool (S.recMk (fs.take i)).over, .ptr cb co, .ptr b 0, wq, .nilslice, pm] 0 false)) := (Mod.refl (fun b => b = mb) h4).set (fun _ => rfl) _
        rw [hy] at p2
        refine (p2.ext e4).mod m fun b q e => ?_
        rw [e] at q
        have hKm : K2 mb = .mach := M3.km
        rcases p5 mb q with q | q
        · rw [V3' mb q] at hKm; cases hKm
        · have := M2.old.2; omega
      · intro b q
        have q2 : K2 b = .no := by
          rcases p5 b q with q | q
          · exact V3' b q
          · exact M2.rep.tmp (by omega)
        by_cases q3 : K4 b = .no
        · exact q3
        · have := t4.fresh b q2 q3
          have := p2.v.old q
          unfold Old at this
          omega
    · have g0 : ((i : Int) < (fs.length : Int)) = False := eq_false (by omega)
      obtain rfl : i = fs.length := by omega
      rw [List.take_length] at M gm rL
      have vlen := V1.v.len
      simp +contextual only [r0, r2, r27, r28, hr3, g0, vlen, ↓wA, wC, Ex.ends, evR, oneOf, top, ↓reduceIte, Nat.reduceEqDiff, Nat.reduceLeDiff, Nat.reduceAdd, Nat.reduceSub, Nat.reduceMul, reduceCtorEq, Int.reduceEq, Int.reduceLT, Int.reduceLE, Int.reduceNeg]
      clear g0 r27 r28
      generalize hT : S.recMk fs = T at *
      refine loopK_intro (fun r h'' => r 0 = .ptr mb 0 ∧ r 2 = .int .i64 fs.length ∧ r 69 = v ∧ r 70 = .int .i64 fs.length ∧ ∃ j : Nat, r 71 = .int .i64 j ∧ j ≤ fs.length ∧ PMach h0 h'' mb K' ad' inp pm { T with st := St.recSet T.e S.st.length T.st (fs.take j) } steps (.ptr cb co) ep' wq oq ∧
        SlO h.next h'' 1 v fs.length ((List.range' S.st.length fs.length).map (ptrA ad'))) (fun r h'' => fs.length - (r 71).toN) ?_ ?_
      · exact ⟨by simp only [r0, ↓wA, wC, ↓reduceIte, Nat.reduceEqDiff, reduceCtorEq], by simp only [r2, ↓wA, wC, ↓reduceIte, Nat.reduceEqDiff, reduceCtorEq], by simp only [↓wA, wC, ↓reduceIte, Nat.reduceEqDiff, reduceCtorEq], by simp only [↓wA, wC, ↓reduceIte, Nat.reduceEqDiff, reduceCtorEq], 0, by simp only [↓wA, wC, ↓reduceIte, Nat.reduceEqDiff, reduceCtorEq] <;> rfl, by omega, M, V1⟩
      · clear r0 r2 hr3 gm lc M V1
        rintro r h' ⟨r0, r2, r69, r70, j, r71, hj, M, V1⟩
        unfold c105l2
        have gm := M.get
        have lc := ldc h' M.rep.ext
        by_cases hlt : j < fs.length
        · have g0 : ((j : Int) < (fs.length : Int)) = True := eq_true (by omega)
          have w := w_inc hlt (by omega)
          have hadl : S.st.length + fs.length ≤ ad'.length := by
            rw [M.rep.len]
            show _ ≤ (St.recSet T.e S.st.length T.st (fs.take j)).length
            have : ∀ (l : List Co) (a : Nat) (st : List PV), (St.recSet T.e a st l).length = st.length := by
              intro l
              induction l with
              | nil => intro a st; rfl
              | cons g l ih => intro a st; rw [St.recSet, ih, List.length_set]
            rw [this, rL]
            exact Nat.le_refl _
          have A : ArgsR h' ad' (List.range' S.st.length fs.length) v := ⟨by rw [List.length_range']; exact V1.v, range_lt hadl⟩
          obtain ⟨b, o, ia, ld, hjl⟩ := A.at (k := .i64) (i := j) (by rw [List.length_range']; exact hlt)
          have hgd : (List.range' S.st.length fs.length).getD j 0 = S.st.length + j := by
            rw [List.getD_eq_getElem?_getD, List.getElem?_eq_getElem (by rw [List.length_range']; exact hlt), List.getElem_range']
            simp
          rw [hgd] at ld hjl
          have l1 := ld h' (Ext.refl _)
          have hval : (St.recSet T.e S.st.length T.st (fs.take j))[S.st.length + j]? = some (.fn fs[j].x (fs[j].l.headD fs[j]) []) := by
            rw [recSet_later _ _ _ _ _ (by rw [List.length_take]; omega), ← hT]
            exact St.recMk_at S fs j hlt
          obtain ⟨kv, fl, ep0, cs, gv, ⟨bp, hbp, rfl⟩, _, _⟩ := M.rep.val _ _ hval
          have oe := M.er.one
          have hlo := (M.rep.new (blkOf ad' (S.st.length + j)) (by rw [kv]; simp)).1
          have ob := hbp.one
          simp +contextual only [ptrA, r0, r2, r69, r70, r71, g0, gm, ia, l1, gv, oe.1, oe.2.1, w, ↓wA, wC, Ex.ends, evR, oneOf, top, ↓reduceIte, Nat.reduceEqDiff, Nat.reduceLeDiff, Nat.reduceAdd, Nat.reduceSub, Nat.reduceMul, reduceCtorEq, Int.reduceEq, Int.reduceLT, Int.reduceLE, Int.reduceNeg]
          refine ⟨⟨j + 1, rfl, hlt, ?_, ?_⟩, by omega⟩
          · have t : Tr h0 K' h' ad' K' (h'.set (blkOf ad' (S.st.length + j)) (.ofL [.int .i64 3, .int .i64 fs[j].x, .str [], .nilslice, bp, ep', .bool false] 0 false)) ad' (· = .val (S.st.length + j)) := Tr.of_set kv hlo
            have hmb : K' mb ≠ .no := by rw [M.km]; simp
            have hst : St.recSet T.e S.st.length T.st (fs.take (j + 1)) = (St.recSet T.e S.st.length T.st (fs.take j)).set (S.st.length + j) (.fn fs[j].x (fs[j].l.headD fs[j]) T.e) := by
              rw [List.take_succ_eq_append_getElem hlt, recSet_snoc, List.length_take, Nat.min_eq_left (by omega)]
            rw [hst]
            have er' : EnvR h' K' ad' ep' T.e := M.er
            refine ⟨M.rep.turn (i := S.st.length + j) t (by intro k hk; simpa using hk) (by simp) (by simp) ?_, M.km, ?_, M.co, M.er.tr t (by simp), M.wr.tr t (by simp) (by simp), M.ou.tr t (by simp)⟩
            · exact ⟨kv, fl, ep', _, by rw [get_set, if_pos rfl], ⟨bp, hbp, rfl⟩, trivial, er'.tr t (by simp)⟩
            · rw [t.get mb hmb (by rw [M.km]; simp)]; exact M.get
          · have m : Mod (fun b => b = blkOf ad' (S.st.length + j)) h' (h'.set (blkOf ad' (S.st.length + j)) (.ofL [.int .i64 3, .int .i64 fs[j].x, .str [], .nilslice, bp, ep', .bool false] 0 false)) := (Mod.refl (fun b => b = blkOf ad' (S.st.length + j)) h').set (fun _ => rfl) _
            refine V1.mod m fun b q e => ?_
            rw [e] at q
            rw [V3 _ q] at kv
            cases kv
        · have g0 : ((j : Int) < (fs.length : Int)) = False := eq_false (by omega)
          obtain rfl : j = fs.length := by omega
          rw [List.take_length] at M
          obtain ⟨q, iaq, hq⟩ := CoAt.kid Hl (k := .i64) (i := fs.length) (by omega)
          have oq' := hq.one
          simp +contextual only [r0, r2, r69, r70, r71, g0, gm, lc.2.2.2.2.2.2, iaq, oq'.1, oq'.2.1, ↓wA, wC, Ex.ends, evR, oneOf, top, ↓reduceIte, Nat.reduceEqDiff, Nat.reduceLeDiff, Nat.reduceAdd, Nat.reduceSub, Nat.reduceMul, reduceCtorEq, Int.reduceEq, Int.reduceLT, Int.reduceLE, Int.reduceNeg]
          have hrec : S.rec_ = { T with st := St.recSet T.e S.st.length T.st fs, c := S.c.l[fs.length]'(by omega) } := by
            simp only [St.rec_, hfs, hT]
            congr 1
            rw [List.getLastD_eq_getLast?, List.getLast?_eq_getElem?, List.getElem?_eq_getElem (by omega)]
            simp only [Option.getD_some]
            congr 1
            omega
          rw [hrec]
          exact ⟨K', ad', _, _, _, _, M.next { T with st := St.recSet T.e S.st.length T.st fs, c := S.c.l[fs.length]'(by omega) } steps q ep' wq oq rfl hq M.er M.wr M.ou⟩
end
end Go.Proofs.YtjbiefneffiogaaGreat

namespace Go.Proofs.YtjbiefneffiogaaGreat
open Go Am
structure Shape (c : Co) : Prop where
  sa : c.a.length ≤ 1048576
  st : c.t.length ≤ 1048576
  sl : c.l.length ≤ 1048576
  at_ : ∀ a ∈ c.a, atB a = true
  a1 : c.k = 1 ∨ c.k = 5 ∨ c.k = 9 ∨ c.k = 10 ∨ c.k = 12 → c.a.length = 1
  a2 : c.k = 6 → c.a.length = 2
  l2 : c.k = 2 ∨ c.k = 11 → c.l.length = 2
  p3 : c.k = 3 → (c.a.length : Int) = takes c.s ∧ 0 < takes c.s
  n5 : c.k = 5 → 0 ≤ c.n ∧ c.n ≤ 1048575
  l7 : c.k = 7 → c.l.length = 1
  l8 : c.k = 8 → 2 ≤ c.l.length ∧ ∀ f ∈ c.l.dropLast, f.l.length = 1
  t9 : c.k = 9 ∨ c.k = 10 → diff c.t = true
  no : c.k ≠ 13 ∧ c.k ≠ 14
theorem flatten_snoc_ (us : List (List V)) (u : List V) : (us ++ [u]).flatten = us.flatten ++ u := by simp
theorem Ok.atoms {S : St} (O : Ok S) (l : List At) (h : ∀ a ∈ l, atB a = true) : Ok (S.atoms l).1 := by
  have key : ∀ (l : List At) (p : St × List Nat), (∀ a ∈ l, atB a = true) → Ok p.1 → Ok (l.foldl St.atomsF p).1 := by
    intro l
    induction l with
    | nil => intro p _ h; exact h
    | cons a l ih =>
      intro p ha hp
      rw [List.foldl_cons]
      refine ih _ (fun b hb => ha b (by simp [hb])) ?_
      have hat := ha a (by simp)
      simp only [St.atomsF, St.atom]
      by_cases k1 : a.k = 1
      · rw [if_pos k1]; exact hp
      · rw [if_neg k1]
        by_cases k2 : a.k = 2
        · rw [if_pos k2]
          refine hp.mk_ (fun n q => ?_) (fun s q => by cases q)
          cases q
          simp only [atB, if_neg k1, if_pos k2, Bool.and_eq_true, numB, decide_eq_true_eq] at hat
          omega
        · rw [if_neg k2]
          refine hp.mk_ (fun n q => by cases q) (fun s q => ?_)
          cases q
          simp only [atB, if_neg k1, if_neg k2] at hat
          by_cases k3 : a.k = 3
          · rw [if_pos k3] at hat
            simp only [Bool.and_eq_true, decide_eq_true_eq] at hat
            omega
          · rw [if_neg k3] at hat; cases hat
  exact key l (S, []) h O
section
variable {h0 h h' : Heap} {mb : Pa} {K K' : Ks} {ad : List Pa} {inp pm : V} {S : St} {steps : Int} {cp ep vw vo : V} {Y : Sty}
theorem EnvR.re (hK : ∀ b, K b ≠ .no → K' b = K b) {p : V} {L : En} (H : EnvR h K ad p L) : EnvR h K' ad p L := by
  induction H with
  | nil => exact .nil
  | cons q hg hj hr ih => exact .cons (by rw [hK _ (by rw [q]; simp), q]) hg hj ih
theorem Rep.re (hK : ∀ b, K b ≠ .no → K' b = K b) (hn : ∀ b, K' b ≠ .no → h0.next ≤ unPa b ∧ unPa b < h.next) {st : List PV} (H : Rep Y h0 h K ad st) : Rep Y h0 h K' ad st := by
  refine ⟨H.ext, hn, H.len, fun i v q => ?_⟩
  obtain ⟨k, fl, ep, cs, g, q3, q4, q5⟩ := H.val i v q
  refine ⟨by rw [hK _ (by rw [k]; simp), k], fl, ep, cs, g, q3, ?_, ?_⟩
  · cases v <;> first | trivial | skip
    exact ⟨q4.1, fun b hb => by rw [hK _ (by rw [q4.2.1 b hb]; simp), q4.2.1 b hb], q4.2.2⟩
  · cases v <;> first | trivial | exact EnvR.re hK q5
theorem PMach.re (M : PMach h0 h mb K ad inp pm S steps cp ep vw vo) (hK : ∀ b, K b ≠ .no → K' b = K b) (hn : ∀ b, K' b ≠ .no → h0.next ≤ unPa b ∧ unPa b < h.next) : PMach h0 h mb K' ad inp pm S steps cp ep vw vo := by
  obtain ⟨us, q1, q2, q3, q4⟩ := M.wr
  refine ⟨M.rep.re hK hn, by rw [hK _ (by rw [M.km]; simp), M.km], M.get, M.co, M.er.re hK, ⟨us, q1, fun b hb => by rw [hK _ (by rw [q2 b hb]; simp), q2 b hb], q3, fun i a u e1 e2 => ?_⟩, M.ou.1, fun b hb => by rw [hK _ (by rw [M.ou.2 b hb]; simp), M.ou.2 b hb]⟩
  obtain ⟨a1, a2, p, a3, a4⟩ := q4 i a u e1 e2
  exact ⟨a1, a2, p, a3, a4.re hK⟩
theorem PMach.makeT (M : PMach h0 h mb K ad inp pm S steps cp ep vw vo) {t : Int} {fs : List Nat} {fl y : V} (F : Fresh h h' y [.int .i64 4, .int .i64 t, .str [], fl, .nilptr, .nilptr, .bool false]) (hfl : SlO h0.next h 1 fl fs.length (fs.map (ptrA ad))) (hno : ∀ b, fl.blk b → K b = .no) (hfs : ∀ j ∈ fs, j < ad.length) :
    ∃ K' ad', PMach h0 h' mb K' ad' inp pm (S.mk_ (.thing t fs)) steps cp ep vw vo ∧ y = ptrA ad' S.st.length ∧ S.st.length < ad'.length := by
  obtain ⟨b, rfl, e1, hbn, ho, hg⟩ := F
  have M0 : PMach h0 h mb (Kp K (fun q => fl.blk q) (.fld S.st.length)) ad inp pm S steps cp ep vw vo := by
    refine M.re (fun c hc => Kp_no fun q => hc (hno c q)) fun c hc => ?_
    by_cases q : fl.blk c
    · exact ⟨hfl.base q, hfl.v.old q⟩
    · rw [Kp_no q] at hc; exact M.rep.new c hc
  have hfl2 : ∀ c, fl.blk c → (Kp K (fun q => fl.blk q) (.fld S.st.length)) c = .fld S.st.length := fun c q => Kp_yes q
  generalize Kp K (fun q => fl.blk q) (.fld S.st.length) = K1 at *
  have t1 := M0.rep.role e1 (fun q => q = b) (.val S.st.length) [b] (fun q hq => by subst hq; exact ⟨hbn, ho⟩)
  have hbl : blkOf (ad ++ [b]) S.st.length = b := by
    unfold blkOf
    rw [List.getD_eq_getElem?_getD, List.getElem?_append_right (by rw [M.rep.len]; exact Nat.le_refl _), M.rep.len, Nat.sub_self]
    rfl
  have hR : Rep PY h0 h' (Kp K1 (fun q => q = b) (.val S.st.length)) (ad ++ [b]) (S.mk_ (.thing t fs)).st := by
    refine M0.rep.push t1 (by simp) (by simp) (by simp) ?_
    have hF : FldR h0 h K1 ad S.st.length (.thing t fs) fl := ⟨hfl, hfl2, hfs⟩
    exact ⟨by rw [hbl]; exact Kp_yes rfl, fl, .nilptr, _, by rw [hbl]; exact hg, rfl, hF.tr t1 id, trivial⟩
  have hm : K1 mb ≠ .no := by rw [M0.km]; simp
  have E := M0.er.tr t1 id
  have W := M0.wr.tr t1 id id
  have O := M0.ou.tr t1 id
  exact ⟨_, _, ⟨hR, by rw [t1.role mb hm, M0.km], by rw [t1.get mb hm id, M0.get]; rfl, M0.co, E, W, O⟩, by unfold ptrA; rw [hbl], by rw [List.length_append, M.rep.len]; simp⟩
theorem PMach.waited (M : PMach h0 h mb K ad inp pm S steps cp ep vw vo) {v p q : V} {a : Wt} {us : List V} (hq : CoAt h0 q a.c) (hp : EnvR h K ad p a.e) (hus : SlO h0.next h 4 vw S.w.length us)
    (hO : SlO h0.next h' 4 v (S.w.length + 1) (us ++ [.bool a.try_, .int .i64 a.x, q, p])) (hm : Mod vw.blk h h') (hb : ∀ b, v.blk b → vw.blk b ∨ h.next ≤ unPa b) (hu : ∃ uss : List (List V), us = uss.flatten ∧ uss.length = S.w.length ∧ ∀ (i : Nat) (a : Wt) (u : List V), S.w.reverse[i]? = some a → uss[i]? = some u → u.length = 4 ∧ ones u = true ∧ ∃ p, PY.WR h0 a p u ∧ EnvR h K ad p a.e) :
    ∃ K', PMach h0 (h'.set mb (.ofL [inp, .int .i64 S.en, .int .i64 S.exn, .int .i64 S.read, .int .i64 steps, vo, .bool S.over, cp, ep, v, .nilslice, pm] 0 false)) mb K' ad inp pm { S with w := a :: S.w } steps cp ep v vo := by
  have hvw : ∀ b, vw.blk b → K b = .wts := by obtain ⟨_, _, q2, _⟩ := M.wr; exact q2
  have t : Tr h0 K h ad (Kp K (fun b => v.blk b ∧ h.next ≤ unPa b) .wts) h' ad (· = .wts) := by
    refine ⟨hm.next, fun b hb' => ?_, fun b hb' hb2 => ?_, fun b hb' hc => ?_, fun b hb' => ?_, [], by simp⟩
    · exact Kp_no fun q => hb' (M.rep.tmp q.2)
    · by_cases q : v.blk b ∧ h.next ≤ unPa b
      · exact ⟨q.2, hO.v.old q.1⟩
      · rw [Kp_no q] at hb2; exact absurd hb' hb2
    · exact hm.get b (M.rep.new b hb').2 fun q => hc (hvw b q)
    · refine hm.get b (Nat.lt_of_lt_of_le hb' M.rep.ext.next) fun q => ?_
      have := hus.base q
      omega
  have hmb : K mb ≠ .no := by rw [M.km]; simp
  obtain ⟨uss, rfl, u2, u3⟩ := hu
  have op := hp.one
  have oq := hq.one
  refine ⟨_, PMach.lay (S' := { S with w := a :: S.w }) (M.rep.tr t (by simp) (by simp) (by simp)) (by rw [t.role mb hmb, M.km]) M.co (M.er.tr t (by simp)) ⟨uss ++ [[.bool a.try_, .int .i64 a.x, q, p]], ?_, fun b r => ?_, by simp [u2], fun i a' u e1 e2 => ?_⟩ (M.ou.tr t (by simp))⟩
  · rw [flatten_snoc_]; exact hO
  · rcases hb b r with s | s
    · have := hvw b s
      rw [t.role b (by rw [this]; simp), this]
    · exact Kp_yes ⟨r, s⟩
  · simp only [List.reverse_cons] at e1
    by_cases hi : i < uss.length
    · rw [List.getElem?_append_left hi] at e2
      rw [List.getElem?_append_left (by rw [List.length_reverse]; omega)] at e1
      obtain ⟨x1, x2, p', x3, x4⟩ := u3 i a' u e1 e2
      exact ⟨x1, x2, p', x3, x4.tr t (by simp)⟩
    · have hi2 : i = uss.length := by
        have := (List.getElem?_eq_some_iff.1 e2).1
        simp only [List.length_append, List.length_cons, List.length_nil] at this
        omega
      subst hi2
      rw [List.getElem?_append_right (Nat.le_refl _), Nat.sub_self] at e2
      rw [List.getElem?_append_right (by rw [List.length_reverse]; omega), List.length_reverse, u2, Nat.sub_self] at e1
      simp only [List.getElem?_cons_zero, Option.some.injEq] at e1 e2
      subst e1 e2
      exact ⟨rfl, by simp only [ones, oq.1, op.1, Bool.and_self]; rfl, p, ⟨q, hq, rfl⟩, hp.tr t (by simp)⟩
end
end Go.Proofs.YtjbiefneffiogaaGreat

namespace Go.Proofs.YtjbiefneffiogaaGreat
open Go Am
section
variable {h0 h h' : Heap} {mb : Pa} {K K' : Ks} {ad : List Pa} {inp pm : V} {S : St} {steps : Int} {cp ep vw vo : V}
set_option maxHeartbeats 4000000 in
theorem step_ret (M : PM h0 h mb K ad inp pm S steps) (O : Ok S) (hw : S.w.length ≤ 1000000000) (Sh : Shape S.c) (hv : ∀ a ∈ S.c.a, a.k = 1 → a.n ∈ S.e.map Prod.fst)  (hk : S.c.k = 1) {inpl : List UInt8} : Ctr Tryz.prog 59 [.ptr mb 0] h fun x h' => ∃ K' ad', PM h0 h' mb K' ad' inp pm (S.step inpl) steps := by
  obtain ⟨cq, eq, wq, oq, M⟩ := M
  obtain ⟨cb, co, va, vt, vl, rfl, Ha, Ht, Hl, ldc⟩ := M.co.open
  have gm := M.get
  rw [hk] at ldc
  have lc := ldc h M.rep.ext
  refine c59_ctr rfl (wpK_of ?_)
  unfold c59
  simp +contextual only [gm, lc.1, ↓wA, wC, Ex.ends, evR, oneOf, top, ↓reduceIte, Nat.reduceEqDiff, Nat.reduceLeDiff, Nat.reduceAdd, Nat.reduceSub, Nat.reduceMul, reduceCtorEq, Int.reduceEq, Int.reduceLT, Int.reduceLE, Int.reduceNeg]
  refine callK_intro (atoms_ctr M hv Sh.sa) ?_
  rintro x h1 ⟨K1, ad1, M1, V1, V2, V3⟩
  obtain ⟨eE, eC, eW, eO, eR, eL⟩ := St.atoms_e S S.c.a
  have O1 := O.atoms S.c.a Sh.at_
  have gm1 := M1.get
  have l1 := ldc h1 M1.rep.ext
  have hst : S.step inpl = (S.atoms S.c.a).1.does inpl (S.atoms S.c.a).2 := rfl
  generalize (S.atoms S.c.a).1 = T at *
  generalize (S.atoms S.c.a).2 = js at *
  have A1 : ArgsR h1 ad1 js x := ⟨V1.v, V2⟩
  have hTk : T.c.k = 1 := by rw [eC]; exact hk
  have hB := M.rep.ext.next
  obtain ⟨j0, rfl⟩ : ∃ j0, js = [j0] := by
    have : js.length = 1 := by rw [eL]; exact Sh.a1 (by omega)
    match js, this with
    | [a], _ => exact ⟨a, rfl⟩
  obtain ⟨hj0, b0, o0, fl0, _, _, ia0, F0, ld0⟩ := M1.arg A1 0 0 j0 rfl rfl
  have lj0 := ld0 _ (Ext.refl _)
  simp +contextual only [gm, gm1, lc.1, l1.1, ia0, lj0.1, ↓wA, wC, Ex.ends, evR, oneOf, top, ↓reduceIte, Nat.reduceEqDiff, Nat.reduceLeDiff, Nat.reduceAdd, Nat.reduceSub, Nat.reduceMul, reduceCtorEq, Int.reduceEq, Int.reduceLT, Int.reduceLE, Int.reduceNeg]
  refine callK_intro (tells_ctr ⟨_, _, _, _, M1⟩ O1.w hj0) ?_
  rintro y h2 ⟨K2, M2⟩
  simp +contextual only [ia0, lj0.1, ↓wA, wC, Ex.ends, evR, oneOf, top, ↓reduceIte, Nat.reduceEqDiff, Nat.reduceLeDiff, Nat.reduceAdd, Nat.reduceSub, Nat.reduceMul, reduceCtorEq, Int.reduceEq, Int.reduceLT, Int.reduceLE, Int.reduceNeg]
  refine ⟨K2, ad1, ?_⟩
  rw [hst]
  have : T.does inpl [j0] = T.tells j0 := by simp only [St.does, hTk, ↓reduceIte, Int.reduceEq, reduceCtorEq, false_or, or_false, or_true, true_or, List.getD_cons_zero, List.getD_cons_succ]
  rw [this]
  exact M2
set_option maxHeartbeats 4000000 in
theorem step_raise (M : PM h0 h mb K ad inp pm S steps) (O : Ok S) (hw : S.w.length ≤ 1000000000) (Sh : Shape S.c) (hv : ∀ a ∈ S.c.a, a.k = 1 → a.n ∈ S.e.map Prod.fst)  (hk : S.c.k = 12) {inpl : List UInt8} : Ctr Tryz.prog 59 [.ptr mb 0] h fun x h' => ∃ K' ad', PM h0 h' mb K' ad' inp pm (S.step inpl) steps := by
  obtain ⟨cq, eq, wq, oq, M⟩ := M
  obtain ⟨cb, co, va, vt, vl, rfl, Ha, Ht, Hl, ldc⟩ := M.co.open
  have gm := M.get
  rw [hk] at ldc
  have lc := ldc h M.rep.ext
  refine c59_ctr rfl (wpK_of ?_)
  unfold c59
  simp +contextual only [gm, lc.1, ↓wA, wC, Ex.ends, evR, oneOf, top, ↓reduceIte, Nat.reduceEqDiff, Nat.reduceLeDiff, Nat.reduceAdd, Nat.reduceSub, Nat.reduceMul, reduceCtorEq, Int.reduceEq, Int.reduceLT, Int.reduceLE, Int.reduceNeg]
  refine callK_intro (atoms_ctr M hv Sh.sa) ?_
  rintro x h1 ⟨K1, ad1, M1, V1, V2, V3⟩
  obtain ⟨eE, eC, eW, eO, eR, eL⟩ := St.atoms_e S S.c.a
  have O1 := O.atoms S.c.a Sh.at_
  have gm1 := M1.get
  have l1 := ldc h1 M1.rep.ext
  have hst : S.step inpl = (S.atoms S.c.a).1.does inpl (S.atoms S.c.a).2 := rfl
  generalize (S.atoms S.c.a).1 = T at *
  generalize (S.atoms S.c.a).2 = js at *
  have A1 : ArgsR h1 ad1 js x := ⟨V1.v, V2⟩
  have hTk : T.c.k = 12 := by rw [eC]; exact hk
  have hB := M.rep.ext.next
  obtain ⟨j0, rfl⟩ : ∃ j0, js = [j0] := by
    have : js.length = 1 := by rw [eL]; exact Sh.a1 (by omega)
    match js, this with
    | [a], _ => exact ⟨a, rfl⟩
  obtain ⟨hj0, b0, o0, fl0, _, _, ia0, F0, ld0⟩ := M1.arg A1 0 0 j0 rfl rfl
  have lj0 := ld0 _ (Ext.refl _)
  simp +contextual only [gm, gm1, lc.1, l1.1, ia0, lj0.1, ↓wA, wC, Ex.ends, evR, oneOf, top, ↓reduceIte, Nat.reduceEqDiff, Nat.reduceLeDiff, Nat.reduceAdd, Nat.reduceSub, Nat.reduceMul, reduceCtorEq, Int.reduceEq, Int.reduceLT, Int.reduceLE, Int.reduceNeg]
  refine callK_intro (raises_ctr ⟨_, _, _, _, M1⟩ O1.w hj0) ?_
  rintro y h2 ⟨K2, M2⟩
  simp +contextual only [ia0, lj0.1, ↓wA, wC, Ex.ends, evR, oneOf, top, ↓reduceIte, Nat.reduceEqDiff, Nat.reduceLeDiff, Nat.reduceAdd, Nat.reduceSub, Nat.reduceMul, reduceCtorEq, Int.reduceEq, Int.reduceLT, Int.reduceLE, Int.reduceNeg]
  refine ⟨K2, ad1, ?_⟩
  rw [hst]
  have : T.does inpl [j0] = T.raises j0 := by simp only [St.does, hTk, ↓reduceIte, Int.reduceEq, reduceCtorEq, false_or, or_false, or_true, true_or, List.getD_cons_zero, List.getD_cons_succ]
  rw [this]
  exact M2
set_option maxHeartbeats 4000000 in
theorem step_make (M : PM h0 h mb K ad inp pm S steps) (O : Ok S) (hw : S.w.length ≤ 1000000000) (Sh : Shape S.c) (hv : ∀ a ∈ S.c.a, a.k = 1 → a.n ∈ S.e.map Prod.fst)  (hk : S.c.k = 4) {inpl : List UInt8} : Ctr Tryz.prog 59 [.ptr mb 0] h fun x h' => ∃ K' ad', PM h0 h' mb K' ad' inp pm (S.step inpl) steps := by
  obtain ⟨cq, eq, wq, oq, M⟩ := M
  obtain ⟨cb, co, va, vt, vl, rfl, Ha, Ht, Hl, ldc⟩ := M.co.open
  have gm := M.get
  rw [hk] at ldc
  have lc := ldc h M.rep.ext
  refine c59_ctr rfl (wpK_of ?_)
  unfold c59
  simp +contextual only [gm, lc.1, ↓wA, wC, Ex.ends, evR, oneOf, top, ↓reduceIte, Nat.reduceEqDiff, Nat.reduceLeDiff, Nat.reduceAdd, Nat.reduceSub, Nat.reduceMul, reduceCtorEq, Int.reduceEq, Int.reduceLT, Int.reduceLE, Int.reduceNeg]
  refine callK_intro (atoms_ctr M hv Sh.sa) ?_
  rintro x h1 ⟨K1, ad1, M1, V1, V2, V3⟩
  obtain ⟨eE, eC, eW, eO, eR, eL⟩ := St.atoms_e S S.c.a
  have O1 := O.atoms S.c.a Sh.at_
  have gm1 := M1.get
  have l1 := ldc h1 M1.rep.ext
  have hst : S.step inpl = (S.atoms S.c.a).1.does inpl (S.atoms S.c.a).2 := rfl
  generalize (S.atoms S.c.a).1 = T at *
  generalize (S.atoms S.c.a).2 = js at *
  have A1 : ArgsR h1 ad1 js x := ⟨V1.v, V2⟩
  have hTk : T.c.k = 4 := by rw [eC]; exact hk
  have hB := M.rep.ext.next
  simp +contextual only [gm, gm1, lc.1, l1.1, l1.2.2.1, ↓wA, wC, Ex.ends, evR, oneOf, top, ↓reduceIte, Nat.reduceEqDiff, Nat.reduceLeDiff, Nat.reduceAdd, Nat.reduceSub, Nat.reduceMul, reduceCtorEq, Int.reduceEq, Int.reduceLT, Int.reduceLE, Int.reduceNeg]
  refine callK_intro (thing_ctr h1 S.c.n x V1.v.one) ?_
  rintro y h2 F
  obtain ⟨K2, ad2, M2, rfl, hn⟩ := M1.makeT F (V1.mono hB) V3 V2
  simp +contextual only [↓wA, wC, Ex.ends, evR, oneOf, top, ↓reduceIte, Nat.reduceEqDiff, Nat.reduceLeDiff, Nat.reduceAdd, Nat.reduceSub, Nat.reduceMul, reduceCtorEq, Int.reduceEq, Int.reduceLT, Int.reduceLE, Int.reduceNeg]
  refine callK_intro (tells_ctr ⟨_, _, _, _, M2⟩ O1.w hn) ?_
  rintro y h2 ⟨K3, M3⟩
  simp +contextual only [↓wA, wC, Ex.ends, evR, oneOf, top, ↓reduceIte, Nat.reduceEqDiff, Nat.reduceLeDiff, Nat.reduceAdd, Nat.reduceSub, Nat.reduceMul, reduceCtorEq, Int.reduceEq, Int.reduceLT, Int.reduceLE, Int.reduceNeg]
  refine ⟨K3, ad2, ?_⟩
  rw [hst]
  have : T.does inpl js = T.tellsV (.thing T.c.n js) := by simp only [St.does, hTk, ↓reduceIte, Int.reduceEq, reduceCtorEq, false_or, or_false, or_true, true_or, List.getD_cons_zero, List.getD_cons_succ]
  rw [this]
  exact by rw [eC]; exact M3
set_option maxHeartbeats 4000000 in
theorem step_prim (M : PM h0 h mb K ad inp pm S steps) (O : Ok S) (hw : S.w.length ≤ 1000000000) (Sh : Shape S.c) (hv : ∀ a ∈ S.c.a, a.k = 1 → a.n ∈ S.e.map Prod.fst) (D : DoesR h0 pm) {inpl : List UInt8} (Hin : SlV h0 1 inp inpl.length (bytesV inpl)) (hlen : inpl.length ≤ 1073741824) (hrd : S.read ≤ inpl.length) (hk : S.c.k = 3) : Ctr Tryz.prog 59 [.ptr mb 0] h fun x h' => ∃ K' ad', PM h0 h' mb K' ad' inp pm (S.step inpl) steps := by
  obtain ⟨cq, eq, wq, oq, M⟩ := M
  obtain ⟨cb, co, va, vt, vl, rfl, Ha, Ht, Hl, ldc⟩ := M.co.open
  have gm := M.get
  rw [hk] at ldc
  have lc := ldc h M.rep.ext
  refine c59_ctr rfl (wpK_of ?_)
  unfold c59
  simp +contextual only [gm, lc.1, ↓wA, wC, Ex.ends, evR, oneOf, top, ↓reduceIte, Nat.reduceEqDiff, Nat.reduceLeDiff, Nat.reduceAdd, Nat.reduceSub, Nat.reduceMul, reduceCtorEq, Int.reduceEq, Int.reduceLT, Int.reduceLE, Int.reduceNeg]
  refine callK_intro (atoms_ctr M hv Sh.sa) ?_
  rintro x h1 ⟨K1, ad1, M1, V1, V2, V3⟩
  obtain ⟨eE, eC, eW, eO, eR, eL⟩ := St.atoms_e S S.c.a
  have O1 := O.atoms S.c.a Sh.at_
  have gm1 := M1.get
  have l1 := ldc h1 M1.rep.ext
  have hst : S.step inpl = (S.atoms S.c.a).1.does inpl (S.atoms S.c.a).2 := rfl
  generalize (S.atoms S.c.a).1 = T at *
  generalize (S.atoms S.c.a).2 = js at *
  have A1 : ArgsR h1 ad1 js x := ⟨V1.v, V2⟩
  have hTk : T.c.k = 3 := by rw [eC]; exact hk
  have hB := M.rep.ext.next
  obtain ⟨p1, p2⟩ := Sh.p3 hk
  obtain ⟨f, cs, q1, q2⟩ := prim_ctr D ⟨_, _, _, _, M1⟩ O1 Hin hlen (by rw [eR]; exact hrd) A1 (s := S.c.s) (by rw [eL]; exact p1) p2
  simp +contextual only [gm, gm1, lc.1, l1.1, l1.2.2.2.1, q1, ↓wA, wC, Ex.ends, evR, oneOf, top, ↓reduceIte, Nat.reduceEqDiff, Nat.reduceLeDiff, Nat.reduceAdd, Nat.reduceSub, Nat.reduceMul, reduceCtorEq, Int.reduceEq, Int.reduceLT, Int.reduceLE, Int.reduceNeg]
  refine callK_intro q2 ?_
  rintro y h2 ⟨K2, ad2, M2⟩
  simp +contextual only [ask_look, gm1, l1.2.2.2.1, q1, ↓wA, wC, Ex.ends, evR, oneOf, top, ↓reduceIte, Nat.reduceEqDiff, Nat.reduceLeDiff, Nat.reduceAdd, Nat.reduceSub, Nat.reduceMul, reduceCtorEq, Int.reduceEq, Int.reduceLT, Int.reduceLE, Int.reduceNeg]
  refine ⟨K2, ad2, ?_⟩
  rw [hst]
  have : T.does inpl js = T.prim inpl T.c.s js := by simp only [St.does, hTk, ↓reduceIte, Int.reduceEq, reduceCtorEq, false_or, or_false, or_true, true_or, List.getD_cons_zero, List.getD_cons_succ]
  rw [this]
  exact by rw [eC]; exact M2
set_option maxHeartbeats 4000000 in
theorem step_call (M : PM h0 h mb K ad inp pm S steps) (O : Ok S) (hw : S.w.length ≤ 1000000000) (Sh : Shape S.c) (hv : ∀ a ∈ S.c.a, a.k = 1 → a.n ∈ S.e.map Prod.fst)  (hk : S.c.k = 6) {inpl : List UInt8} : Ctr Tryz.prog 59 [.ptr mb 0] h fun x h' => ∃ K' ad', PM h0 h' mb K' ad' inp pm (S.step inpl) steps := by
  obtain ⟨cq, eq, wq, oq, M⟩ := M
  obtain ⟨cb, co, va, vt, vl, rfl, Ha, Ht, Hl, ldc⟩ := M.co.open
  have gm := M.get
  rw [hk] at ldc
  have lc := ldc h M.rep.ext
  refine c59_ctr rfl (wpK_of ?_)
  unfold c59
  simp +contextual only [gm, lc.1, ↓wA, wC, Ex.ends, evR, oneOf, top, ↓reduceIte, Nat.reduceEqDiff, Nat.reduceLeDiff, Nat.reduceAdd, Nat.reduceSub, Nat.reduceMul, reduceCtorEq, Int.reduceEq, Int.reduceLT, Int.reduceLE, Int.reduceNeg]
  refine callK_intro (atoms_ctr M hv Sh.sa) ?_
  rintro x h1 ⟨K1, ad1, M1, V1, V2, V3⟩
  obtain ⟨eE, eC, eW, eO, eR, eL⟩ := St.atoms_e S S.c.a
  have O1 := O.atoms S.c.a Sh.at_
  have gm1 := M1.get
  have l1 := ldc h1 M1.rep.ext
  have hst : S.step inpl = (S.atoms S.c.a).1.does inpl (S.atoms S.c.a).2 := rfl
  generalize (S.atoms S.c.a).1 = T at *
  generalize (S.atoms S.c.a).2 = js at *
  have A1 : ArgsR h1 ad1 js x := ⟨V1.v, V2⟩
  have hTk : T.c.k = 6 := by rw [eC]; exact hk
  have hB := M.rep.ext.next
  obtain ⟨j0, j1, rfl⟩ : ∃ j0 j1, js = [j0, j1] := by
    have : js.length = 2 := by rw [eL]; exact Sh.a2 hk
    match js, this with
    | [a, b], _ => exact ⟨a, b, rfl⟩
  obtain ⟨hj0, b0, o0, fl0, _, _, ia0, F0, ld0⟩ := M1.arg A1 0 0 j0 rfl rfl
  have lj0 := ld0 _ (Ext.refl _)
  obtain ⟨hj1, b1, o1, fl1, _, _, ia1, F1, ld1⟩ := M1.arg A1 1 1 j1 rfl rfl
  have lj1 := ld1 _ (Ext.refl _)
  simp +contextual only [gm, gm1, lc.1, l1.1, ia0, lj0.1, ia1, lj1.1, ↓wA, wC, Ex.ends, evR, oneOf, top, ↓reduceIte, Nat.reduceEqDiff, Nat.reduceLeDiff, Nat.reduceAdd, Nat.reduceSub, Nat.reduceMul, reduceCtorEq, Int.reduceEq, Int.reduceLT, Int.reduceLE, Int.reduceNeg]
  refine callK_intro (call_ctr ⟨_, _, _, _, M1⟩ hj0 hj1) ?_
  rintro y h2 ⟨K2, ad2, M2⟩
  simp +contextual only [ia0, lj0.1, ia1, lj1.1, ↓wA, wC, Ex.ends, evR, oneOf, top, ↓reduceIte, Nat.reduceEqDiff, Nat.reduceLeDiff, Nat.reduceAdd, Nat.reduceSub, Nat.reduceMul, reduceCtorEq, Int.reduceEq, Int.reduceLT, Int.reduceLE, Int.reduceNeg]
  refine ⟨K2, ad2, ?_⟩
  rw [hst]
  have : T.does inpl [j0, j1] = T.call j0 j1 := by simp only [St.does, hTk, ↓reduceIte, Int.reduceEq, reduceCtorEq, false_or, or_false, or_true, true_or, List.getD_cons_zero, List.getD_cons_succ]
  rw [this]
  exact M2
set_option maxHeartbeats 4000000 in
theorem step_rec (M : PM h0 h mb K ad inp pm S steps) (O : Ok S) (hw : S.w.length ≤ 1000000000) (Sh : Shape S.c) (hv : ∀ a ∈ S.c.a, a.k = 1 → a.n ∈ S.e.map Prod.fst)  (hk : S.c.k = 8) {inpl : List UInt8} : Ctr Tryz.prog 59 [.ptr mb 0] h fun x h' => ∃ K' ad', PM h0 h' mb K' ad' inp pm (S.step inpl) steps := by
  obtain ⟨cq, eq, wq, oq, M⟩ := M
  obtain ⟨cb, co, va, vt, vl, rfl, Ha, Ht, Hl, ldc⟩ := M.co.open
  have gm := M.get
  rw [hk] at ldc
  have lc := ldc h M.rep.ext
  refine c59_ctr rfl (wpK_of ?_)
  unfold c59
  simp +contextual only [gm, lc.1, ↓wA, wC, Ex.ends, evR, oneOf, top, ↓reduceIte, Nat.reduceEqDiff, Nat.reduceLeDiff, Nat.reduceAdd, Nat.reduceSub, Nat.reduceMul, reduceCtorEq, Int.reduceEq, Int.reduceLT, Int.reduceLE, Int.reduceNeg]
  refine callK_intro (atoms_ctr M hv Sh.sa) ?_
  rintro x h1 ⟨K1, ad1, M1, V1, V2, V3⟩
  obtain ⟨eE, eC, eW, eO, eR, eL⟩ := St.atoms_e S S.c.a
  have O1 := O.atoms S.c.a Sh.at_
  have gm1 := M1.get
  have l1 := ldc h1 M1.rep.ext
  have hst : S.step inpl = (S.atoms S.c.a).1.does inpl (S.atoms S.c.a).2 := rfl
  generalize (S.atoms S.c.a).1 = T at *
  generalize (S.atoms S.c.a).2 = js at *
  have A1 : ArgsR h1 ad1 js x := ⟨V1.v, V2⟩
  have hTk : T.c.k = 8 := by rw [eC]; exact hk
  have hB := M.rep.ext.next
  simp +contextual only [gm, gm1, lc.1, l1.1, ↓wA, wC, Ex.ends, evR, oneOf, top, ↓reduceIte, Nat.reduceEqDiff, Nat.reduceLeDiff, Nat.reduceAdd, Nat.reduceSub, Nat.reduceMul, reduceCtorEq, Int.reduceEq, Int.reduceLT, Int.reduceLE, Int.reduceNeg]
  obtain ⟨r1, r2⟩ := Sh.l8 hk
  refine callK_intro (rec_ctr ⟨_, _, _, _, M1⟩ (by rw [eC]; omega) (by rw [eC]; have := Sh.sl; omega) (by rw [eC]; intro f hf; rw [r2 f hf]; exact Nat.le_refl _)) ?_
  rintro y h2 ⟨K2, ad2, M2⟩
  simp +contextual only [↓wA, wC, Ex.ends, evR, oneOf, top, ↓reduceIte, Nat.reduceEqDiff, Nat.reduceLeDiff, Nat.reduceAdd, Nat.reduceSub, Nat.reduceMul, reduceCtorEq, Int.reduceEq, Int.reduceLT, Int.reduceLE, Int.reduceNeg]
  refine ⟨K2, ad2, ?_⟩
  rw [hst]
  have : T.does inpl js = T.rec_ := by simp only [St.does, hTk, ↓reduceIte, Int.reduceEq, reduceCtorEq, false_or, or_false, or_true, true_or, List.getD_cons_zero, List.getD_cons_succ]
  rw [this]
  exact M2
set_option maxHeartbeats 4000000 in
theorem step_switch (M : PM h0 h mb K ad inp pm S steps) (O : Ok S) (hw : S.w.length ≤ 1000000000) (Sh : Shape S.c) (hv : ∀ a ∈ S.c.a, a.k = 1 → a.n ∈ S.e.map Prod.fst)  (hk : S.c.k = 9) {inpl : List UInt8} : Ctr Tryz.prog 59 [.ptr mb 0] h fun x h' => ∃ K' ad', PM h0 h' mb K' ad' inp pm (S.step inpl) steps := by
  obtain ⟨cq, eq, wq, oq, M⟩ := M
  obtain ⟨cb, co, va, vt, vl, rfl, Ha, Ht, Hl, ldc⟩ := M.co.open
  have gm := M.get
  rw [hk] at ldc
  have lc := ldc h M.rep.ext
  refine c59_ctr rfl (wpK_of ?_)
  unfold c59
  simp +contextual only [gm, lc.1, ↓wA, wC, Ex.ends, evR, oneOf, top, ↓reduceIte, Nat.reduceEqDiff, Nat.reduceLeDiff, Nat.reduceAdd, Nat.reduceSub, Nat.reduceMul, reduceCtorEq, Int.reduceEq, Int.reduceLT, Int.reduceLE, Int.reduceNeg]
  refine callK_intro (atoms_ctr M hv Sh.sa) ?_
  rintro x h1 ⟨K1, ad1, M1, V1, V2, V3⟩
  obtain ⟨eE, eC, eW, eO, eR, eL⟩ := St.atoms_e S S.c.a
  have O1 := O.atoms S.c.a Sh.at_
  have gm1 := M1.get
  have l1 := ldc h1 M1.rep.ext
  have hst : S.step inpl = (S.atoms S.c.a).1.does inpl (S.atoms S.c.a).2 := rfl
  generalize (S.atoms S.c.a).1 = T at *
  generalize (S.atoms S.c.a).2 = js at *
  have A1 : ArgsR h1 ad1 js x := ⟨V1.v, V2⟩
  have hTk : T.c.k = 9 := by rw [eC]; exact hk
  have hB := M.rep.ext.next
  obtain ⟨j0, rfl⟩ : ∃ j0, js = [j0] := by
    have : js.length = 1 := by rw [eL]; exact Sh.a1 (by omega)
    match js, this with
    | [a], _ => exact ⟨a, rfl⟩
  obtain ⟨hj0, b0, o0, fl0, _, _, ia0, F0, ld0⟩ := M1.arg A1 0 0 j0 rfl rfl
  have lj0 := ld0 _ (Ext.refl _)
  simp +contextual only [gm, gm1, lc.1, l1.1, ia0, lj0.1, ↓wA, wC, Ex.ends, evR, oneOf, top, ↓reduceIte, Nat.reduceEqDiff, Nat.reduceLeDiff, Nat.reduceAdd, Nat.reduceSub, Nat.reduceMul, reduceCtorEq, Int.reduceEq, Int.reduceLT, Int.reduceLE, Int.reduceNeg]
  refine callK_intro (chooses_ctr ⟨_, _, _, _, M1⟩ (nums := false) (kd := 4) rfl hj0 (by rw [eC]; exact Sh.t9 (by omega)) (by rw [eC]; exact Sh.st) (by rw [eC]; have := Sh.sl; omega)) ?_
  rintro y h2 M2
  simp +contextual only [ia0, lj0.1, ↓wA, wC, Ex.ends, evR, oneOf, top, ↓reduceIte, Nat.reduceEqDiff, Nat.reduceLeDiff, Nat.reduceAdd, Nat.reduceSub, Nat.reduceMul, reduceCtorEq, Int.reduceEq, Int.reduceLT, Int.reduceLE, Int.reduceNeg]
  refine ⟨K1, ad1, ?_⟩
  rw [hst]
  have : T.does inpl [j0] = T.chooses false j0 := by simp only [St.does, hTk, ↓reduceIte, Int.reduceEq, reduceCtorEq, false_or, or_false, or_true, true_or, List.getD_cons_zero, List.getD_cons_succ]
  rw [this]
  exact M2
set_option maxHeartbeats 4000000 in
theorem step_choose (M : PM h0 h mb K ad inp pm S steps) (O : Ok S) (hw : S.w.length ≤ 1000000000) (Sh : Shape S.c) (hv : ∀ a ∈ S.c.a, a.k = 1 → a.n ∈ S.e.map Prod.fst)  (hk : S.c.k = 10) {inpl : List UInt8} : Ctr Tryz.prog 59 [.ptr mb 0] h fun x h' => ∃ K' ad', PM h0 h' mb K' ad' inp pm (S.step inpl) steps := by
  obtain ⟨cq, eq, wq, oq, M⟩ := M
  obtain ⟨cb, co, va, vt, vl, rfl, Ha, Ht, Hl, ldc⟩ := M.co.open
  have gm := M.get
  rw [hk] at ldc
  have lc := ldc h M.rep.ext
  refine c59_ctr rfl (wpK_of ?_)
  unfold c59
  simp +contextual only [gm, lc.1, ↓wA, wC, Ex.ends, evR, oneOf, top, ↓reduceIte, Nat.reduceEqDiff, Nat.reduceLeDiff, Nat.reduceAdd, Nat.reduceSub, Nat.reduceMul, reduceCtorEq, Int.reduceEq, Int.reduceLT, Int.reduceLE, Int.reduceNeg]
  refine callK_intro (atoms_ctr M hv Sh.sa) ?_
  rintro x h1 ⟨K1, ad1, M1, V1, V2, V3⟩
  obtain ⟨eE, eC, eW, eO, eR, eL⟩ := St.atoms_e S S.c.a
  have O1 := O.atoms S.c.a Sh.at_
  have gm1 := M1.get
  have l1 := ldc h1 M1.rep.ext
  have hst : S.step inpl = (S.atoms S.c.a).1.does inpl (S.atoms S.c.a).2 := rfl
  generalize (S.atoms S.c.a).1 = T at *
  generalize (S.atoms S.c.a).2 = js at *
  have A1 : ArgsR h1 ad1 js x := ⟨V1.v, V2⟩
  have hTk : T.c.k = 10 := by rw [eC]; exact hk
  have hB := M.rep.ext.next
  obtain ⟨j0, rfl⟩ : ∃ j0, js = [j0] := by
    have : js.length = 1 := by rw [eL]; exact Sh.a1 (by omega)
    match js, this with
    | [a], _ => exact ⟨a, rfl⟩
  obtain ⟨hj0, b0, o0, fl0, _, _, ia0, F0, ld0⟩ := M1.arg A1 0 0 j0 rfl rfl
  have lj0 := ld0 _ (Ext.refl _)
  simp +contextual only [gm, gm1, lc.1, l1.1, ia0, lj0.1, ↓wA, wC, Ex.ends, evR, oneOf, top, ↓reduceIte, Nat.reduceEqDiff, Nat.reduceLeDiff, Nat.reduceAdd, Nat.reduceSub, Nat.reduceMul, reduceCtorEq, Int.reduceEq, Int.reduceLT, Int.reduceLE, Int.reduceNeg]
  refine callK_intro (chooses_ctr ⟨_, _, _, _, M1⟩ (nums := true) (kd := 1) rfl hj0 (by rw [eC]; exact Sh.t9 (by omega)) (by rw [eC]; exact Sh.st) (by rw [eC]; have := Sh.sl; omega)) ?_
  rintro y h2 M2
  simp +contextual only [ia0, lj0.1, ↓wA, wC, Ex.ends, evR, oneOf, top, ↓reduceIte, Nat.reduceEqDiff, Nat.reduceLeDiff, Nat.reduceAdd, Nat.reduceSub, Nat.reduceMul, reduceCtorEq, Int.reduceEq, Int.reduceLT, Int.reduceLE, Int.reduceNeg]
  refine ⟨K1, ad1, ?_⟩
  rw [hst]
  have : T.does inpl [j0] = T.chooses true j0 := by simp only [St.does, hTk, ↓reduceIte, Int.reduceEq, reduceCtorEq, false_or, or_false, or_true, true_or, List.getD_cons_zero, List.getD_cons_succ]
  rw [this]
  exact M2
set_option maxHeartbeats 4000000 in
theorem step_fun (M : PM h0 h mb K ad inp pm S steps) (O : Ok S) (hw : S.w.length ≤ 1000000000) (Sh : Shape S.c) (hv : ∀ a ∈ S.c.a, a.k = 1 → a.n ∈ S.e.map Prod.fst)  (hk : S.c.k = 7) {inpl : List UInt8} : Ctr Tryz.prog 59 [.ptr mb 0] h fun x h' => ∃ K' ad', PM h0 h' mb K' ad' inp pm (S.step inpl) steps := by
  obtain ⟨cq, eq, wq, oq, M⟩ := M
  obtain ⟨cb, co, va, vt, vl, rfl, Ha, Ht, Hl, ldc⟩ := M.co.open
  have gm := M.get
  rw [hk] at ldc
  have lc := ldc h M.rep.ext
  refine c59_ctr rfl (wpK_of ?_)
  unfold c59
  simp +contextual only [gm, lc.1, ↓wA, wC, Ex.ends, evR, oneOf, top, ↓reduceIte, Nat.reduceEqDiff, Nat.reduceLeDiff, Nat.reduceAdd, Nat.reduceSub, Nat.reduceMul, reduceCtorEq, Int.reduceEq, Int.reduceLT, Int.reduceLE, Int.reduceNeg]
  refine callK_intro (atoms_ctr M hv Sh.sa) ?_
  rintro x h1 ⟨K1, ad1, M1, V1, V2, V3⟩
  obtain ⟨eE, eC, eW, eO, eR, eL⟩ := St.atoms_e S S.c.a
  have O1 := O.atoms S.c.a Sh.at_
  have gm1 := M1.get
  have l1 := ldc h1 M1.rep.ext
  have hst : S.step inpl = (S.atoms S.c.a).1.does inpl (S.atoms S.c.a).2 := rfl
  generalize (S.atoms S.c.a).1 = T at *
  generalize (S.atoms S.c.a).2 = js at *
  have A1 : ArgsR h1 ad1 js x := ⟨V1.v, V2⟩
  have hTk : T.c.k = 7 := by rw [eC]; exact hk
  have hB := M.rep.ext.next
  have hl7 := Sh.l7 hk
  obtain ⟨q, iaq, hq⟩ := CoAt.kid Hl (k := .i64) (i := 0) (by omega)
  have iaq' : iaV 7 vl (.int .i64 0) = some q := iaq
  have oq' := hq.one
  have oe := M1.er.one
  simp +contextual only [gm, gm1, lc.1, l1.1, l1.2.1, l1.2.2.2.2.2.2, iaq', oq'.1, oq'.2.1, oq'.2.2, oe.1, oe.2.1, oe.2.2, ↓wA, wC, Ex.ends, evR, oneOf, top, ↓reduceIte, Nat.reduceEqDiff, Nat.reduceLeDiff, Nat.reduceAdd, Nat.reduceSub, Nat.reduceMul, reduceCtorEq, Int.reduceEq, Int.reduceLT, Int.reduceLE, Int.reduceNeg]
  have F : Fresh h1 (h1.new (.ofL [.int .i64 3, .int .i64 S.c.x, .str [], .nilslice, q, eq, .bool false] 0 false)) (.ptr (pa h1.next) 0) [.int .i64 3, .int .i64 S.c.x, .str [], .nilslice, q, eq, .bool false] := fresh_new _ _
  obtain ⟨K2, ad2, M2, hy, hn, t⟩ := M1.makeF F hq M1.er
  rw [hy]
  have nm : (pa h1.next = mb) = False := old_ne M1.old.2 (Nat.le_refl _)
  have l2 := ldc _ M2.rep.ext
  simp only [get_new] at l2
  refine callK_intro (tells_ctr ⟨_, _, _, _, M2⟩ O1.w hn) ?_
  rintro y h2 ⟨K3, M3⟩
  simp +contextual only [nm, gm1, l1.2.1, l1.2.2.2.2.2.2, l2.2.1, l2.2.2.2.2.2.2, iaq', ↓wA, wC, Ex.ends, evR, oneOf, top, ↓reduceIte, Nat.reduceEqDiff, Nat.reduceLeDiff, Nat.reduceAdd, Nat.reduceSub, Nat.reduceMul, reduceCtorEq, Int.reduceEq, Int.reduceLT, Int.reduceLE, Int.reduceNeg]
  refine ⟨K3, ad2, ?_⟩
  rw [hst]
  have : T.does inpl js = T.tellsV (.fn T.c.x (T.kid 0) T.e) := by simp only [St.does, hTk, ↓reduceIte, Int.reduceEq, reduceCtorEq, false_or, or_false, or_true, true_or, List.getD_cons_zero, List.getD_cons_succ]
  rw [this]
  exact by
    have hkid : T.kid 0 = S.c.l[0]'(by omega) := by
      simp only [St.kid, eC]
      rw [List.getD_eq_getElem?_getD, List.getElem?_eq_getElem (by omega)]; rfl
    rw [hkid, eC]; exact M3
end
end Go.Proofs.YtjbiefneffiogaaGreat

namespace Go.Proofs.YtjbiefneffiogaaGreat
open Go Am
section
variable {h0 h h' : Heap} {mb : Pa} {K K' : Ks} {ad : List Pa} {inp pm : V} {S : St} {steps : Int} {cp ep vw vo : V}
set_option maxHeartbeats 4000000 in
theorem step_get (M : PM h0 h mb K ad inp pm S steps) (O : Ok S) (hw : S.w.length ≤ 1000000000) (Sh : Shape S.c) (hv : ∀ a ∈ S.c.a, a.k = 1 → a.n ∈ S.e.map Prod.fst)  (hk : S.c.k = 5) {inpl : List UInt8} : Ctr Tryz.prog 59 [.ptr mb 0] h fun x h' => ∃ K' ad', PM h0 h' mb K' ad' inp pm (S.step inpl) steps := by
  obtain ⟨cq, eq, wq, oq, M⟩ := M
  obtain ⟨cb, co, va, vt, vl, rfl, Ha, Ht, Hl, ldc⟩ := M.co.open
  have gm := M.get
  rw [hk] at ldc
  have lc := ldc h M.rep.ext
  refine c59_ctr rfl (wpK_of ?_)
  unfold c59
  simp +contextual only [gm, lc.1, ↓wA, wC, Ex.ends, evR, oneOf, top, ↓reduceIte, Nat.reduceEqDiff, Nat.reduceLeDiff, Nat.reduceAdd, Nat.reduceSub, Nat.reduceMul, reduceCtorEq, Int.reduceEq, Int.reduceLT, Int.reduceLE, Int.reduceNeg]
  refine callK_intro (atoms_ctr M hv Sh.sa) ?_
  rintro x h1 ⟨K1, ad1, M1, V1, V2, V3⟩
  obtain ⟨eE, eC, eW, eO, eR, eL⟩ := St.atoms_e S S.c.a
  have O1 := O.atoms S.c.a Sh.at_
  have gm1 := M1.get
  have l1 := ldc h1 M1.rep.ext
  have hst : S.step inpl = (S.atoms S.c.a).1.does inpl (S.atoms S.c.a).2 := rfl
  generalize (S.atoms S.c.a).1 = T at *
  generalize (S.atoms S.c.a).2 = js at *
  have A1 : ArgsR h1 ad1 js x := ⟨V1.v, V2⟩
  have hTk : T.c.k = 5 := by rw [eC]; exact hk
  have hB := M.rep.ext.next
  obtain ⟨j0, rfl⟩ : ∃ j0, js = [j0] := by
    have : js.length = 1 := by rw [eL]; exact Sh.a1 (by omega)
    match js, this with
    | [a], _ => exact ⟨a, rfl⟩
  obtain ⟨hj0, b0, o0, fl0, _, _, ia0, F0, ld0⟩ := M1.arg A1 0 0 j0 rfl rfl
  have lj0 := ld0 _ (Ext.refl _)
  obtain ⟨n1, n2⟩ := Sh.n5 hk
  have M1' : PM h0 h1 mb K1 ad1 inp pm T steps := ⟨_, _, _, _, M1⟩
  by_cases h4 : ¬ kindV (T.val j0) = 4
  · have h4' := eq_false h4
    simp +contextual only [gm, gm1, lc.1, l1.1, ia0, lj0.1, lj0.2, h4', ↓wA, wC, Ex.ends, evR, oneOf, top, ↓reduceIte, Nat.reduceEqDiff, Nat.reduceLeDiff, Nat.reduceAdd, Nat.reduceSub, Nat.reduceMul, reduceCtorEq, Int.reduceEq, Int.reduceLT, Int.reduceLE, Int.reduceNeg]
    refine callK_intro (ends_ctr M1' 6) ?_
    rintro y h2 M2
    simp +contextual only [↓wA, wC, Ex.ends, evR, oneOf, top, ↓reduceIte, Nat.reduceEqDiff, Nat.reduceLeDiff, Nat.reduceAdd, Nat.reduceSub, Nat.reduceMul, reduceCtorEq, Int.reduceEq, Int.reduceLT, Int.reduceLE, Int.reduceNeg]
    refine ⟨K1, ad1, ?_⟩
    rw [hst]
    have : T.does inpl [j0] = T.trap := by
      simp only [St.does, hTk, ↓reduceIte, Int.reduceEq, reduceCtorEq, false_or, or_false, List.getD_cons_zero, St.get_]
      cases hv : T.val j0 <;> first | rfl | (rw [hv] at h4; exact (h4 rfl).elim)
    rw [this]
    exact M2
  obtain ⟨t, fs, hv⟩ := kind_thing (Decidable.not_not.1 h4)
  rw [hv] at lj0 F0
  simp only [kindV, numV, strV] at lj0
  obtain ⟨f1, f2, f3⟩ := F0
  have hfl := f1.v.len
  by_cases hn : (fs.length : Int) ≤ S.c.n
  · have hn' := eq_true hn
    simp +contextual only [gm, gm1, lc.1, l1.1, l1.2.2.1, ia0, lj0.1, lj0.2, hfl, hn', ↓wA, wC, Ex.ends, evR, oneOf, top, ↓reduceIte, Nat.reduceEqDiff, Nat.reduceLeDiff, Nat.reduceAdd, Nat.reduceSub, Nat.reduceMul, reduceCtorEq, Int.reduceEq, Int.reduceLT, Int.reduceLE, Int.reduceNeg]
    refine callK_intro (ends_ctr M1' 6) ?_
    rintro y h2 M2
    simp +contextual only [↓wA, wC, Ex.ends, evR, oneOf, top, ↓reduceIte, Nat.reduceEqDiff, Nat.reduceLeDiff, Nat.reduceAdd, Nat.reduceSub, Nat.reduceMul, reduceCtorEq, Int.reduceEq, Int.reduceLT, Int.reduceLE, Int.reduceNeg]
    refine ⟨K1, ad1, ?_⟩
    rw [hst]
    have : T.does inpl [j0] = T.trap := by
      have : T.does inpl [j0] = T.get_ T.c.n j0 := by simp only [St.does, hTk, ↓reduceIte, Int.reduceEq, reduceCtorEq, false_or, or_false, List.getD_cons_zero]
      rw [this]
      simp only [St.get_, hv]
      rw [eC, if_pos hn]
    rw [this]
    exact M2
  have hn' := eq_false hn
  obtain ⟨m, hm⟩ : ∃ m : Nat, S.c.n = (m : Int) := ⟨S.c.n.toNat, by omega⟩
  have A2 : ArgsR h1 ad1 fs fl0 := ⟨f1.v, f3⟩
  obtain ⟨b2, o2, ia2, ld2, hj2⟩ := A2.at (k := .i64) (i := m) (by omega)
  rw [← hm] at ia2
  have lj2 := ld2 _ (Ext.refl _)
  simp +contextual only [gm, gm1, lc.1, l1.1, l1.2.2.1, ia0, lj0.1, lj0.2, hfl, hn', ia2, lj2, ↓wA, wC, Ex.ends, evR, oneOf, top, ↓reduceIte, Nat.reduceEqDiff, Nat.reduceLeDiff, Nat.reduceAdd, Nat.reduceSub, Nat.reduceMul, reduceCtorEq, Int.reduceEq, Int.reduceLT, Int.reduceLE, Int.reduceNeg]
  refine callK_intro (tells_ctr M1' O1.w hj2) ?_
  rintro y h2 ⟨K2, M2⟩
  simp +contextual only [gm1, l1.2.2.1, ia0, lj0.1, lj0.2, ia2, lj2, ↓wA, wC, Ex.ends, evR, oneOf, top, ↓reduceIte, Nat.reduceEqDiff, Nat.reduceLeDiff, Nat.reduceAdd, Nat.reduceSub, Nat.reduceMul, reduceCtorEq, Int.reduceEq, Int.reduceLT, Int.reduceLE, Int.reduceNeg]
  refine ⟨K2, ad1, ?_⟩
  rw [hst]
  have : T.does inpl [j0] = T.tells (fs.getD m 0) := by
    have : T.does inpl [j0] = T.get_ T.c.n j0 := by simp only [St.does, hTk, ↓reduceIte, Int.reduceEq, reduceCtorEq, false_or, or_false, List.getD_cons_zero]
    rw [this]
    simp only [St.get_, hv]
    rw [eC, if_neg hn, hm]
    rfl
  rw [this]
  exact M2
set_option maxHeartbeats 4000000 in
theorem step_let (M : PM h0 h mb K ad inp pm S steps) (O : Ok S) (hw : S.w.length ≤ 1000000000) (Sh : Shape S.c) (hv : ∀ a ∈ S.c.a, a.k = 1 → a.n ∈ S.e.map Prod.fst)  (hk : S.c.k = 2) {inpl : List UInt8} : Ctr Tryz.prog 59 [.ptr mb 0] h fun x h' => ∃ K' ad', PM h0 h' mb K' ad' inp pm (S.step inpl) steps := by
  obtain ⟨cq, eq, wq, oq, M⟩ := M
  obtain ⟨cb, co, va, vt, vl, rfl, Ha, Ht, Hl, ldc⟩ := M.co.open
  have gm := M.get
  rw [hk] at ldc
  have lc := ldc h M.rep.ext
  refine c59_ctr rfl (wpK_of ?_)
  unfold c59
  simp +contextual only [gm, lc.1, ↓wA, wC, Ex.ends, evR, oneOf, top, ↓reduceIte, Nat.reduceEqDiff, Nat.reduceLeDiff, Nat.reduceAdd, Nat.reduceSub, Nat.reduceMul, reduceCtorEq, Int.reduceEq, Int.reduceLT, Int.reduceLE, Int.reduceNeg]
  refine callK_intro (atoms_ctr M hv Sh.sa) ?_
  rintro x h1 ⟨K1, ad1, M1, V1, V2, V3⟩
  obtain ⟨eE, eC, eW, eO, eR, eL⟩ := St.atoms_e S S.c.a
  have O1 := O.atoms S.c.a Sh.at_
  have gm1 := M1.get
  have l1 := ldc h1 M1.rep.ext
  have hst : S.step inpl = (S.atoms S.c.a).1.does inpl (S.atoms S.c.a).2 := rfl
  generalize (S.atoms S.c.a).1 = T at *
  generalize (S.atoms S.c.a).2 = js at *
  have A1 : ArgsR h1 ad1 js x := ⟨V1.v, V2⟩
  have hTk : T.c.k = 2 := by rw [eC]; exact hk
  have hB := M.rep.ext.next
  have hl2 := Sh.l2 (by omega)
  obtain ⟨q0, iaq0, hq0⟩ := CoAt.kid Hl (k := .i64) (i := 0) (by omega)
  obtain ⟨q1, iaq1, hq1⟩ := CoAt.kid Hl (k := .i64) (i := 1) (by omega)
  have iaq0' : iaV 7 vl (.int .i64 0) = some q0 := iaq0
  have iaq1' : iaV 7 vl (.int .i64 1) = some q1 := iaq1
  have oq0 := hq0.one
  have oq1 := hq1.one
  have oe := M1.er.one
  have W := M1.wr
  obtain ⟨us, w1, w2, w3, w4⟩ := W
  have hTw : T.w.length ≤ 1000000000 := by rw [eW]; exact hw
  obtain ⟨v', h3, p1, p2, p3, p4, p5⟩ := app_one (size := 4) (cs := [.bool false, .int .i64 S.c.x, q1, eq]) (by omega) w1 M1.rep.ext.next (by unfold top; omega) rfl (by simp only [ones, oq1.1, oe.1, Bool.and_self]; rfl)
  obtain ⟨K3, M3⟩ := M1.waited (a := ⟨false, S.c.x, S.c.l[1]'(by omega), T.e⟩) hq1 M1.er w1 p2 p3 (fun b q => by rcases p5 b q with r | r; exact .inl r; exact .inr (by omega)) ⟨us, rfl, w3, w4⟩
  have M4 := M3.next { T with w := ⟨false, S.c.x, S.c.l[1]'(by omega), T.e⟩ :: T.w, c := S.c.l[0]'(by omega) } steps q0 eq v' oq rfl hq0 M3.er M3.wr M3.ou
  have ow := p2.v.one
  have nm : (pa h1.next = mb) = False := old_ne M1.old.2 (Nat.le_refl _)
  have lB := ldc _ (M1.rep.ext.trans ((Ext.refl h1).new (.ofL [.bool false, .int .i64 S.c.x, q1, eq] 0 false)))
  simp only [get_new] at lB
  have gm3 : h3.get mb = _ := (p3.get mb M1.old.2 (fun q => by have := w2 mb q; rw [M1.km] at this; cases this)).trans gm1
  have e3 : Ext h0 h3 := ⟨by have := M1.rep.ext.next; omega, fun b hb => (p3.get b (Nat.lt_of_lt_of_le hb M1.rep.ext.next) (fun q => by have := w1.base q; unfold Old at hb; omega)).trans (M1.rep.ext.get b hb)⟩
  have l3 := ldc h3 e3
  have l4 := ldc _ M3.rep.ext
  simp only [get_set] at l4
  simp +contextual only [gm, gm1, lc.1, l1.1, l1.2.1, l1.2.2.2.2.2.2, iaq0', iaq1', oq0.1, oq0.2.1, oq0.2.2, oq1.1, oq1.2.1, oq1.2.2, oe.1, oe.2.1, oe.2.2, nm, lB.1, lB.2.1, lB.2.2.2.2.2.2, p1, gm3, l3.1, l3.2.1, l3.2.2.2.2.2.2, l4.2.2.2.2.2.2, ow.1, ow.2.1, ↓wA, wC, Ex.ends, evR, oneOf, top, ↓reduceIte, Nat.reduceEqDiff, Nat.reduceLeDiff, Nat.reduceAdd, Nat.reduceSub, Nat.reduceMul, reduceCtorEq, Int.reduceEq, Int.reduceLT, Int.reduceLE, Int.reduceNeg]
  refine ⟨K3, ad1, ?_⟩
  rw [hst]
  have hk0 : T.kid 0 = S.c.l[0]'(by omega) := by
    simp only [St.kid, eC]
    rw [List.getD_eq_getElem?_getD, List.getElem?_eq_getElem (by omega)]; rfl
  have hk1 : T.kid 1 = S.c.l[1]'(by omega) := by
    simp only [St.kid, eC]
    rw [List.getD_eq_getElem?_getD, List.getElem?_eq_getElem (by omega)]; rfl
  have : T.does inpl js = { T with w := ⟨false, S.c.x, S.c.l[1]'(by omega), T.e⟩ :: T.w, c := S.c.l[0]'(by omega) } := by
    simp only [St.does, hTk, ↓reduceIte, Int.reduceEq, reduceCtorEq, false_or, or_false, or_true, true_or, St.waits, hk0, hk1]
    rw [eC]
    rfl
  rw [this]
  exact ⟨_, _, _, _, M4⟩
set_option maxHeartbeats 4000000 in
theorem step_try (M : PM h0 h mb K ad inp pm S steps) (O : Ok S) (hw : S.w.length ≤ 1000000000) (Sh : Shape S.c) (hv : ∀ a ∈ S.c.a, a.k = 1 → a.n ∈ S.e.map Prod.fst)  (hk : S.c.k = 11) {inpl : List UInt8} : Ctr Tryz.prog 59 [.ptr mb 0] h fun x h' => ∃ K' ad', PM h0 h' mb K' ad' inp pm (S.step inpl) steps := by
  obtain ⟨cq, eq, wq, oq, M⟩ := M
  obtain ⟨cb, co, va, vt, vl, rfl, Ha, Ht, Hl, ldc⟩ := M.co.open
  have gm := M.get
  rw [hk] at ldc
  have lc := ldc h M.rep.ext
  refine c59_ctr rfl (wpK_of ?_)
  unfold c59
  simp +contextual only [gm, lc.1, ↓wA, wC, Ex.ends, evR, oneOf, top, ↓reduceIte, Nat.reduceEqDiff, Nat.reduceLeDiff, Nat.reduceAdd, Nat.reduceSub, Nat.reduceMul, reduceCtorEq, Int.reduceEq, Int.reduceLT, Int.reduceLE, Int.reduceNeg]
  refine callK_intro (atoms_ctr M hv Sh.sa) ?_
  rintro x h1 ⟨K1, ad1, M1, V1, V2, V3⟩
  obtain ⟨eE, eC, eW, eO, eR, eL⟩ := St.atoms_e S S.c.a
  have O1 := O.atoms S.c.a Sh.at_
  have gm1 := M1.get
  have l1 := ldc h1 M1.rep.ext
  have hst : S.step inpl = (S.atoms S.c.a).1.does inpl (S.atoms S.c.a).2 := rfl
  generalize (S.atoms S.c.a).1 = T at *
  generalize (S.atoms S.c.a).2 = js at *
  have A1 : ArgsR h1 ad1 js x := ⟨V1.v, V2⟩
  have hTk : T.c.k = 11 := by rw [eC]; exact hk
  have hB := M.rep.ext.next
  have hl2 := Sh.l2 (by omega)
  obtain ⟨q0, iaq0, hq0⟩ := CoAt.kid Hl (k := .i64) (i := 0) (by omega)
  obtain ⟨q1, iaq1, hq1⟩ := CoAt.kid Hl (k := .i64) (i := 1) (by omega)
  have iaq0' : iaV 7 vl (.int .i64 0) = some q0 := iaq0
  have iaq1' : iaV 7 vl (.int .i64 1) = some q1 := iaq1
  have oq0 := hq0.one
  have oq1 := hq1.one
  have oe := M1.er.one
  have W := M1.wr
  obtain ⟨us, w1, w2, w3, w4⟩ := W
  have hTw : T.w.length ≤ 1000000000 := by rw [eW]; exact hw
  obtain ⟨v', h3, p1, p2, p3, p4, p5⟩ := app_one (size := 4) (cs := [.bool true, .int .i64 S.c.x, q1, eq]) (by omega) w1 M1.rep.ext.next (by unfold top; omega) rfl (by simp only [ones, oq1.1, oe.1, Bool.and_self]; rfl)
  obtain ⟨K3, M3⟩ := M1.waited (a := ⟨true, S.c.x, S.c.l[1]'(by omega), T.e⟩) hq1 M1.er w1 p2 p3 (fun b q => by rcases p5 b q with r | r; exact .inl r; exact .inr (by omega)) ⟨us, rfl, w3, w4⟩
  have M4 := M3.next { T with w := ⟨true, S.c.x, S.c.l[1]'(by omega), T.e⟩ :: T.w, c := S.c.l[0]'(by omega) } steps q0 eq v' oq rfl hq0 M3.er M3.wr M3.ou
  have ow := p2.v.one
  have nm : (pa h1.next = mb) = False := old_ne M1.old.2 (Nat.le_refl _)
  have lB := ldc _ (M1.rep.ext.trans ((Ext.refl h1).new (.ofL [.bool true, .int .i64 S.c.x, q1, eq] 0 false)))
  simp only [get_new] at lB
  have gm3 : h3.get mb = _ := (p3.get mb M1.old.2 (fun q => by have := w2 mb q; rw [M1.km] at this; cases this)).trans gm1
  have e3 : Ext h0 h3 := ⟨by have := M1.rep.ext.next; omega, fun b hb => (p3.get b (Nat.lt_of_lt_of_le hb M1.rep.ext.next) (fun q => by have := w1.base q; unfold Old at hb; omega)).trans (M1.rep.ext.get b hb)⟩
  have l3 := ldc h3 e3
  have l4 := ldc _ M3.rep.ext
  simp only [get_set] at l4
  simp +contextual only [gm, gm1, lc.1, l1.1, l1.2.1, l1.2.2.2.2.2.2, iaq0', iaq1', oq0.1, oq0.2.1, oq0.2.2, oq1.1, oq1.2.1, oq1.2.2, oe.1, oe.2.1, oe.2.2, nm, lB.1, lB.2.1, lB.2.2.2.2.2.2, p1, gm3, l3.1, l3.2.1, l3.2.2.2.2.2.2, l4.2.2.2.2.2.2, ow.1, ow.2.1, ↓wA, wC, Ex.ends, evR, oneOf, top, ↓reduceIte, Nat.reduceEqDiff, Nat.reduceLeDiff, Nat.reduceAdd, Nat.reduceSub, Nat.reduceMul, reduceCtorEq, Int.reduceEq, Int.reduceLT, Int.reduceLE, Int.reduceNeg]
  refine ⟨K3, ad1, ?_⟩
  rw [hst]
  have hk0 : T.kid 0 = S.c.l[0]'(by omega) := by
    simp only [St.kid, eC]
    rw [List.getD_eq_getElem?_getD, List.getElem?_eq_getElem (by omega)]; rfl
  have hk1 : T.kid 1 = S.c.l[1]'(by omega) := by
    simp only [St.kid, eC]
    rw [List.getD_eq_getElem?_getD, List.getElem?_eq_getElem (by omega)]; rfl
  have : T.does inpl js = { T with w := ⟨true, S.c.x, S.c.l[1]'(by omega), T.e⟩ :: T.w, c := S.c.l[0]'(by omega) } := by
    simp only [St.does, hTk, ↓reduceIte, Int.reduceEq, reduceCtorEq, false_or, or_false, or_true, true_or, St.waits, hk0, hk1]
    rw [eC]
    rfl
  rw [this]
  exact ⟨_, _, _, _, M4⟩
theorem step_ctr (M : PM h0 h mb K ad inp pm S steps) (O : Ok S) (hw : S.w.length ≤ 1000000000) (Sh : Shape S.c) (hv : ∀ a ∈ S.c.a, a.k = 1 → a.n ∈ S.e.map Prod.fst) (hkk : 1 ≤ S.c.k ∧ S.c.k ≤ 12)
    (D : DoesR h0 pm) {inpl : List UInt8} (Hin : SlV h0 1 inp inpl.length (bytesV inpl)) (hlen : inpl.length ≤ 1073741824) (hrd : S.read ≤ inpl.length) : Ctr Tryz.prog 59 [.ptr mb 0] h fun x h' => ∃ K' ad', PM h0 h' mb K' ad' inp pm (S.step inpl) steps := by
  have : S.c.k = 1 ∨ S.c.k = 2 ∨ S.c.k = 3 ∨ S.c.k = 4 ∨ S.c.k = 5 ∨ S.c.k = 6 ∨ S.c.k = 7 ∨ S.c.k = 8 ∨ S.c.k = 9 ∨ S.c.k = 10 ∨ S.c.k = 11 ∨ S.c.k = 12 := by omega
  rcases this with hk | hk | hk | hk | hk | hk | hk | hk | hk | hk | hk | hk
  · exact step_ret M O hw Sh hv hk
  · exact step_let M O hw Sh hv hk
  · exact step_prim M O hw Sh hv D Hin hlen hrd hk
  · exact step_make M O hw Sh hv hk
  · exact step_get M O hw Sh hv hk
  · exact step_call M O hw Sh hv hk
  · exact step_fun M O hw Sh hv hk
  · exact step_rec M O hw Sh hv hk
  · exact step_switch M O hw Sh hv hk
  · exact step_choose M O hw Sh hv hk
  · exact step_try M O hw Sh hv hk
  · exact step_raise M O hw Sh hv hk
end
end Go.Proofs.YtjbiefneffiogaaGreat
