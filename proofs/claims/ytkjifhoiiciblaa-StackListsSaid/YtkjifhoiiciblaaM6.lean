/- The chapter's functions, walked by the abstract machine: plain lemmas, no condition. -/
import Derived.Test.YtkjifhoiiciblaaM4
import Derived.Test.YtkjifhoiiciblaaM5

namespace Go.Proofs.Ytkjifhoiiciblaa
open Go Am
set_option linter.unusedSimpArgs false
set_option linter.unusedVariables false
def isList (op : Int) : Bool := decide (op = 2) || decide (op = 3) || decide (op = 4) || decide (op = 5)
theorem list_pure (op : Int) (h : Heap) : CallsV Try.prog 27 [.int .i64 op] h (.bool (isList op)) h := by
  have : Ctr Try.prog 27 [.int .i64 op] h fun v h' => v = .bool (isList op) ∧ h' = h := by
    refine c27_ctr rfl (wpK_of ?_)
    unfold c27
    simp +contextual only [↓wpA1, ↓wpA2, ↓wpA3, wpB1, wpB2, wpB3, wpB4, wpB5, wpB6, repeatV, RX.evs, spl, over, ones, Ex.ends, evR, oneOf, Option.isSome_some, Option.getD_some, if_true, if_false, true_and, and_true, List.getElem?_cons_zero, List.getElem?_cons_succ, List.length_cons, List.length_nil, List.drop_zero, List.drop_succ_cons, List.take_succ_cons, List.take_zero, List.cons_append, List.nil_append, Option.some.injEq, exists_eq_left', top, List.cons.injEq, ↓reduceIte, Nat.reduceEqDiff, Nat.reduceLeDiff, Nat.reduceAdd, Nat.reduceSub, Nat.reduceMul, reduceCtorEq, Nat.succ_ne_zero, imp_T, imp_F, List.getElem?_nil, Int.reduceEq, Int.reduceLT, Int.reduceLE, Int.reduceNeg, Int.reduceAdd, Int.reduceSub, decide_true, decide_false, eq_self, not_true_eq_false, not_false_eq_true, ite_true, ite_false]
    rfl
  obtain ⟨v, h', q, rfl, rfl⟩ := this
  exact q

/-- a frame -/
structure Fm where
  op : Int
  base : Int
  res : Int
  dead : Bool
def Fm.enc (f : Fm) : List V := [.int .i64 f.op, .int .i64 f.base, .int .i64 f.res, .bool f.dead]
def encs (fs : List Fm) : List V := fs.flatMap Fm.enc
theorem encs_length (fs : List Fm) : (encs fs).length = fs.length * 4 := by
  unfold encs
  induction fs with
  | nil => rfl
  | cons f fs ih => simp only [List.flatMap_cons, List.length_append, List.length_cons, ih, Fm.enc, List.length_nil]; omega
theorem encs_at (fs : List Fm) (i : Nat) (hi : i < fs.length) : ((encs fs).drop (i * 4)).take 4 = fs[i].enc := by
  unfold encs
  induction fs generalizing i with
  | nil => simp at hi
  | cons f fs ih =>
    cases i with
    | zero => simp [List.flatMap_cons, Fm.enc]
    | succ i =>
      simp only [List.flatMap_cons, List.getElem_cons_succ]
      rw [show (i + 1) * 4 = i * 4 + f.enc.length from by simp [Fm.enc]; omega, Nat.add_comm (i * 4), ← List.drop_drop, List.drop_left]
      exact ih i (by simpa using hi)

/-- Check, plainly -/
def okFrom (height : Int) : Nat → Int → List Fm → Bool
  | _, _, [] => true
  | i, base, f :: fs => !((!(decide (i = 0) && decide (f.op = 0) && decide (f.base = 0)) && (decide (i = 0) || !isList f.op)) || decide (f.base < base) || decide (height < f.base) || decide (f.res < 0) || decide (1 < f.res)) && okFrom height (i + 1) f.base fs
def checkB (height : Int) (fs : List Fm) : Bool :=
  !(decide (height < 0) || decide (1073741824 < height) || decide ((fs.length : Int) < 1) || decide (1000 < (fs.length : Int))) && okFrom height 0 0 fs

theorem okFrom_step (ht : Int) (i : Nat) (base : Int) (fs : List Fm) (hi : i < fs.length) : okFrom ht i base (fs.drop i) =
    (!((!(decide (i = 0) && decide (fs[i].op = 0) && decide (fs[i].base = 0)) && (decide (i = 0) || !isList fs[i].op)) || decide (fs[i].base < base) || decide (ht < fs[i].base) || decide (fs[i].res < 0) || decide (1 < fs[i].res)) && okFrom ht (i + 1) fs[i].base (fs.drop (i + 1))) := by
  rw [List.drop_eq_getElem_cons hi]
  rfl

theorem check_ctr (ht : Int) (v : V) (fs : List Fm) (h : Heap) (hv : SlV h 4 v fs.length (encs fs)) :
    Ctr Try.prog 8 [.agg [.int .i64 ht, v]] h fun x h' => x = .int .i64 (if checkB ht fs = true then 0 else 2) ∧ Ext h h' := by
  refine c8_ctr rfl (wpK_of ?_)
  unfold c8
  have hl := hv.len
  simp +contextual only [hl, ↓wpA1, ↓wpA2, ↓wpA3, wpB1, wpB2, wpB3, wpB4, wpB5, wpB6, repeatV, RX.evs, spl, over, ones, Ex.ends, evR, oneOf, Option.isSome_some, Option.getD_some, if_true, if_false, true_and, and_true, List.getElem?_cons_zero, List.getElem?_cons_succ, List.length_cons, List.length_nil, List.drop_zero, List.drop_succ_cons, List.take_succ_cons, List.take_zero, List.cons_append, List.nil_append, Option.some.injEq, exists_eq_left', top, List.cons.injEq, ↓reduceIte, Nat.reduceEqDiff, Nat.reduceLeDiff, Nat.reduceAdd, Nat.reduceSub, Nat.reduceMul, reduceCtorEq, Nat.succ_ne_zero, imp_T, imp_F, List.getElem?_nil, Int.reduceEq, Int.reduceLT, Int.reduceLE, Int.reduceNeg, Int.reduceAdd, Int.reduceSub, decide_true, decide_false, eq_self, not_true_eq_false, not_false_eq_true, ite_true, ite_false]
  refine ⟨fun hb => ⟨by simp only [checkB, hb, Bool.not_true, Bool.false_and, Bool.false_eq_true, if_false], (Ext.refl h).new _⟩, fun hb => ?_⟩
  refine loopK_intro (fun r h' => ∃ (i : Nat) (base : Int), i ≤ fs.length ∧ r 28 = v ∧ r 29 = .int .i64 fs.length ∧ r 30 = .int .i64 i ∧ r 3 = .int .i64 base ∧ r 1 = .ptr (pa h.next) 0 ∧
      h'.get (pa h.next) = .ofL [.int .i64 ht, v] 0 false ∧ Ext h h' ∧ h.next < h'.next ∧ okFrom ht 0 0 fs = okFrom ht i base (fs.drop i)) (fun r _ => fs.length - (r 30).toN) ?_ ?_
  · refine ⟨0, 0, Nat.zero_le _, ?_⟩
    simp only [↓wpA1, ↓wpA2, ↓wpA3, wpB1, wpB2, wpB3, wpB4, wpB5, wpB6, repeatV, RX.evs, spl, over, ones, Ex.ends, evR, oneOf, Option.isSome_some, Option.getD_some, if_true, if_false, true_and, and_true, List.getElem?_cons_zero, List.getElem?_cons_succ, List.length_cons, List.length_nil, List.drop_zero, List.drop_succ_cons, List.take_succ_cons, List.take_zero, List.cons_append, List.nil_append, Option.some.injEq, exists_eq_left', top, List.cons.injEq, ↓reduceIte, Nat.reduceEqDiff, Nat.reduceLeDiff, Nat.reduceAdd, Nat.reduceSub, Nat.reduceMul, reduceCtorEq, Nat.succ_ne_zero, imp_T, imp_F, List.getElem?_nil, Int.reduceEq, Int.reduceLT, Int.reduceLE, Int.reduceNeg, Int.reduceAdd, Int.reduceSub, decide_true, decide_false, eq_self, not_true_eq_false, not_false_eq_true, ite_true, ite_false]
    exact ⟨rfl, (Ext.refl h).new _, Nat.lt_succ_self _⟩
  · rintro r h' ⟨i, base, hi, e28, e29, e30, e3, e1, hg, hx, hn, hok⟩
    have hnp : (pa h'.next = pa h.next) = False := by rw [pa_eq]; exact eq_false (by omega)
    by_cases hlt : i < fs.length
    · obtain ⟨b, off, hia, hat⟩ := (hv.ext hx).ia (k := .i64) hlt
      have hld := hat.ldn (i := i * 4) (n := 4) (by rw [encs_length]; omega)
      rw [encs_at fs i hlt] at hld
      have hil : ((i : Int) < (fs.length : Int)) := by omega
      rw [okFrom_step ht i base fs hlt] at hok
      unfold c8l1
      simp +contextual only [e28, e29, e30, e3, e1, hia, hld, hg, hnp, hil, Fm.enc, decide_true, if_true, ↓wpA1, ↓wpA2, ↓wpA3, wpB1, wpB2, wpB3, wpB4, wpB5, wpB6, repeatV, RX.evs, spl, over, ones, Ex.ends, evR, oneOf, Option.isSome_some, Option.getD_some, if_true, if_false, true_and, and_true, List.getElem?_cons_zero, List.getElem?_cons_succ, List.length_cons, List.length_nil, List.drop_zero, List.drop_succ_cons, List.take_succ_cons, List.take_zero, List.cons_append, List.nil_append, Option.some.injEq, exists_eq_left', top, List.cons.injEq, ↓reduceIte, Nat.reduceEqDiff, Nat.reduceLeDiff, Nat.reduceAdd, Nat.reduceSub, Nat.reduceMul, reduceCtorEq, Nat.succ_ne_zero, imp_T, imp_F, List.getElem?_nil, Int.reduceEq, Int.reduceLT, Int.reduceLE, Int.reduceNeg, Int.reduceAdd, Int.reduceSub, decide_true, decide_false, eq_self, not_true_eq_false, not_false_eq_true, ite_true, ite_false]
      refine gateK_callF (.bool (isList fs[i].op)) (fun hc => ?_) ?_
      · simp only [hc, ↓wpA1, ↓wpA2, ↓wpA3, wpB1, wpB2, wpB3, wpB4, wpB5, wpB6, repeatV, RX.evs, spl, over, ones, Ex.ends, evR, oneOf, Option.isSome_some, Option.getD_some, if_true, if_false, true_and, and_true, List.getElem?_cons_zero, List.getElem?_cons_succ, List.length_cons, List.length_nil, List.drop_zero, List.drop_succ_cons, List.take_succ_cons, List.take_zero, List.cons_append, List.nil_append, Option.some.injEq, exists_eq_left', top, List.cons.injEq, ↓reduceIte, Nat.reduceEqDiff, Nat.reduceLeDiff, Nat.reduceAdd, Nat.reduceSub, Nat.reduceMul, reduceCtorEq, Nat.succ_ne_zero, imp_T, imp_F, List.getElem?_nil, Int.reduceEq, Int.reduceLT, Int.reduceLE, Int.reduceNeg, Int.reduceAdd, Int.reduceSub, decide_true, decide_false, eq_self, not_true_eq_false, not_false_eq_true, ite_true, ite_false]
        exact list_pure _ _
      · have hw : IntKind.i64.wrap ((i : Int) + 1) = ((i + 1 : Nat) : Int) := by rw [wrap_i64 (by omega) (by simp [checkB] at hb; omega)]; rfl
        rw [show decide (i = 0) = decide ((i : Int) = 0) from by rw [Bool.eq_iff_iff]; simp] at hok
        generalize (decide ((i : Int) = 0) && decide (fs[i].op = 0) && decide (fs[i].base = 0)) = first at hok ⊢
        simp +contextual only [e28, e29, e30, e3, e1, hia, hld, hg, hnp, hil, Fm.enc, decide_true, if_true, ↓wpA1, ↓wpA2, ↓wpA3, wpB1, wpB2, wpB3, wpB4, wpB5, wpB6, repeatV, RX.evs, spl, over, ones, Ex.ends, evR, oneOf, Option.isSome_some, Option.getD_some, if_true, if_false, true_and, and_true, List.getElem?_cons_zero, List.getElem?_cons_succ, List.length_cons, List.length_nil, List.drop_zero, List.drop_succ_cons, List.take_succ_cons, List.take_zero, List.cons_append, List.nil_append, Option.some.injEq, exists_eq_left', top, List.cons.injEq, ↓reduceIte, Nat.reduceEqDiff, Nat.reduceLeDiff, Nat.reduceAdd, Nat.reduceSub, Nat.reduceMul, reduceCtorEq, Nat.succ_ne_zero, imp_T, imp_F, List.getElem?_nil, Int.reduceEq, Int.reduceLT, Int.reduceLE, Int.reduceNeg, Int.reduceAdd, Int.reduceSub, decide_true, decide_false, eq_self, not_true_eq_false, not_false_eq_true, ite_true, ite_false]
        refine ⟨fun hc => ⟨?_, ?_⟩, fun hc => ⟨⟨i + 1, fs[i].base, by omega, by rw [hw], rfl, ?_, by omega, ?_⟩, ?_⟩⟩
        · rw [hc] at hok
          simp only [checkB, hb, hok, Bool.not_true, Bool.false_and, Bool.and_false, Bool.false_eq_true, if_false]
        · exact (hx.new _).set (by have := hx.next; omega) _
        · exact (hx.new _).set (by have := hx.next; omega) _
        · rw [hc] at hok
          simpa using hok
        · rw [hw]; omega
    · have hil : ¬ ((i : Int) < (fs.length : Int)) := by omega
      unfold c8l1
      simp +contextual only [e28, e29, e30, e3, e1, hil, decide_false, ↓wpA1, ↓wpA2, ↓wpA3, wpB1, wpB2, wpB3, wpB4, wpB5, wpB6, repeatV, RX.evs, spl, over, ones, Ex.ends, evR, oneOf, Option.isSome_some, Option.getD_some, if_true, if_false, true_and, and_true, List.getElem?_cons_zero, List.getElem?_cons_succ, List.length_cons, List.length_nil, List.drop_zero, List.drop_succ_cons, List.take_succ_cons, List.take_zero, List.cons_append, List.nil_append, Option.some.injEq, exists_eq_left', top, List.cons.injEq, ↓reduceIte, Nat.reduceEqDiff, Nat.reduceLeDiff, Nat.reduceAdd, Nat.reduceSub, Nat.reduceMul, reduceCtorEq, Nat.succ_ne_zero, imp_T, imp_F, List.getElem?_nil, Int.reduceEq, Int.reduceLT, Int.reduceLE, Int.reduceNeg, Int.reduceAdd, Int.reduceSub, decide_true, decide_false, eq_self, not_true_eq_false, not_false_eq_true, ite_true, ite_false]
      refine ⟨?_, hx⟩
      rw [List.drop_eq_nil_of_le (by omega)] at hok
      have : checkB ht fs = true := by
        simp only [checkB, hb, hok, okFrom]
        rfl
      rw [if_pos this]
end Go.Proofs.Ytkjifhoiiciblaa

namespace Go.Proofs.Ytkjifhoiiciblaa
open Go Am
set_option linter.unusedSimpArgs false
set_option linter.unusedVariables false

theorem nilb (v : V) (h : Heap) (size n : Nat) (vs : List V) (hv : SlV h size v n vs) : (BK.eqn false 2).run Try.prog v .nilslice = some (.bool (match v with | .nilslice => true | _ => false)) := by
  have h2 := hv.2
  cases v <;> simp only at h2 <;> first | (exact h2.elim) | rfl

/-- slices.Clone -/
theorem clone_ctr (v : V) (fs : List Fm) (h : Heap) (hv : SlV h 4 v fs.length (encs fs)) (hn : fs.length ≤ 100000) :
    Ctr Try.prog 39 [v] h fun x h' => SlO h.next h' 4 x fs.length (encs fs) ∧ Ext h h' := by
  refine c39_ctr rfl (wpK_of ?_)
  unfold c39
  have hnb := nilb v h 4 _ _ hv
  simp +contextual only [hnb, ↓wpA1, ↓wpA2, ↓wpA3, wpB1, wpB2, wpB3, wpB4, wpB5, wpB6, repeatV, RX.evs, spl, over, ones, Ex.ends, evR, oneOf, Option.isSome_some, Option.getD_some, if_true, if_false, true_and, and_true, List.getElem?_cons_zero, List.getElem?_cons_succ, List.length_cons, List.length_nil, List.drop_zero, List.drop_succ_cons, List.take_succ_cons, List.take_zero, List.cons_append, List.nil_append, Option.some.injEq, exists_eq_left', top, List.cons.injEq, ↓reduceIte, Nat.reduceEqDiff, Nat.reduceLeDiff, Nat.reduceAdd, Nat.reduceSub, Nat.reduceMul, reduceCtorEq, Nat.succ_ne_zero, imp_T, imp_F, List.getElem?_nil, Int.reduceEq, Int.reduceLT, Int.reduceLE, Int.reduceNeg, Int.reduceAdd, Int.reduceSub, decide_true, decide_false, eq_self, not_true_eq_false, not_false_eq_true, ite_true, ite_false]
  have ho : ones (encs fs) = true := by
    unfold encs
    clear hv hnb hn
    induction fs with
    | nil => rfl
    | cons f fs ih => rw [List.flatMap_cons]; exact ones_append rfl ih
  refine ⟨fun hc => ?_, fun hc => ?_⟩
  · have h2 := hv.2
    cases v <;> simp only at hc h2 <;> first | (cases hc; done) | skip
    refine ⟨⟨hv.1, h2⟩, Ext.refl h⟩
  · have e0 : (h.new (.ofL [] 0 false)).get (pa h.next) = .ofL [] 0 false := get_new_self _
    have hown : SlO h.next (h.new (.ofL [] 0 false)) 4 (.slice (pa h.next) 0 0 0) 0 [] :=
      ⟨rfl, rfl, by rw [unPa_pa]; exact Nat.le_refl _, old_self, Nat.le_refl _, Nat.zero_le _, [], 0, false, e0, Nat.le_refl _, rfl⟩
    obtain ⟨x, h', q1, q2, q3, _⟩ := app_own (B := h.next) (by omega) hown (hv.ext ((Ext.refl h).new _)) (Nat.le_succ _) (by unfold top; omega) ho
    simp only [q1, ↓wpA1, ↓wpA2, ↓wpA3, wpB1, wpB2, wpB3, wpB4, wpB5, wpB6, repeatV, RX.evs, spl, over, ones, Ex.ends, evR, oneOf, Option.isSome_some, Option.getD_some, if_true, if_false, true_and, and_true, List.getElem?_cons_zero, List.getElem?_cons_succ, List.length_cons, List.length_nil, List.drop_zero, List.drop_succ_cons, List.take_succ_cons, List.take_zero, List.cons_append, List.nil_append, Option.some.injEq, exists_eq_left', top, List.cons.injEq, ↓reduceIte, Nat.reduceEqDiff, Nat.reduceLeDiff, Nat.reduceAdd, Nat.reduceSub, Nat.reduceMul, reduceCtorEq, Nat.succ_ne_zero, imp_T, imp_F, List.getElem?_nil, Int.reduceEq, Int.reduceLT, Int.reduceLE, Int.reduceNeg, Int.reduceAdd, Int.reduceSub, decide_true, decide_false, eq_self, not_true_eq_false, not_false_eq_true, ite_true, ite_false]
    refine ⟨by simpa using q2, ((Ext.refl h).new _).mod_new q3 fun b hb => ?_⟩
    rw [show b = pa h.next from hb, unPa_pa]
    exact Nat.le_refl _

abbrev Turn := Int → List Fm → Int × Int × List Fm
/-- what a turn does with a stand in memory of its own -/
def Turns (g : FuncId) (cs : List V) (T : Turn) (h : Heap) (B : Nat) : Prop :=
  ∀ (h1 : Heap) (bs : Pa) (ht : Int) (v1 : V) (fs : List Fm) (bt : Pa) (off : Nat), Ext h h1 → B ≤ unPa bs → Old h1 bs → h1.get bs = .ofL [.int .i64 ht, v1] 0 false → checkB ht fs = true →
    SlO B h1 4 v1 fs.length (encs fs) → v1.blk bt → ¬ v1.blk bs → iaV 4 v1 (.int .i64 ((fs.length - 1 : Nat) : Int)) = some (.ptr bt (off + (fs.length - 1) * 4)) → AtL h1 bt off (encs fs) →
    Ctr Try.prog g (.ptr bs 0 :: .ptr bt (off + (fs.length - 1) * 4) :: cs) h1 fun x h2 => x = .int .i64 (T ht fs).1 ∧ Mod (fun b => b = bs ∨ v1.blk b) h1 h2 ∧
      ((T ht fs).1 = 0 → ∃ v2, h2.get bs = .ofL [.int .i64 (T ht fs).2.1, v2] 0 false ∧ SlO B h2 4 v2 (T ht fs).2.2.length (encs (T ht fs).2.2) ∧ ∀ b, v2.blk b → v1.blk b ∨ h1.next ≤ unPa b)

def zeroS : V := .agg [.int .i64 0, .nilslice]
/-- how a stand that is turned is told -/
def Told (B : Nat) (T : Turn) (fine : Bool) (ht : Int) (fs : List Fm) (x : V) (h' : Heap) : Prop :=
  if (fine && checkB ht fs) = true then
    (if (T ht fs).1 = 0 then ∃ v2, x = .tuple [.agg [.int .i64 (T ht fs).2.1, v2], .int .i64 0] ∧ SlO B h' 4 v2 (T ht fs).2.2.length (encs (T ht fs).2.2)
    else x = .tuple [zeroS, .int .i64 (T ht fs).1])
  else x = .tuple [zeroS, .int .i64 2]

theorem check_len {ht : Int} {fs : List Fm} (h : checkB ht fs = true) : 1 ≤ fs.length ∧ fs.length ≤ 1000 ∧ 0 ≤ ht ∧ ht ≤ 1073741824 := by
  simp [checkB] at h
  omega

theorem turned_ctr (g : FuncId) (cs : List V) (T : Turn) (ht : Int) (v : V) (fs : List Fm) (fine : Bool) (h : Heap) (hv : SlV h 4 v fs.length (encs fs)) (hT : fine = true → Turns g cs T h h.next) :
    Ctr Try.prog 28 [.agg [.int .i64 ht, v], .bool fine, .func g cs] h fun x h' => Told h.next T fine ht fs x h' ∧ Ext h h' := by
  refine c28_ctr rfl (wpK_of ?_)
  unfold c28
  cases fine with
  | false =>
    simp +contextual only [↓wpA1, ↓wpA2, ↓wpA3, wpB1, wpB2, wpB3, wpB4, wpB5, wpB6, repeatV, RX.evs, spl, over, ones, Ex.ends, evR, oneOf, Option.isSome_some, Option.getD_some, if_true, if_false, true_and, and_true, List.getElem?_cons_zero, List.getElem?_cons_succ, List.length_cons, List.length_nil, List.drop_zero, List.drop_succ_cons, List.take_succ_cons, List.take_zero, List.cons_append, List.nil_append, Option.some.injEq, exists_eq_left', top, List.cons.injEq, ↓reduceIte, Nat.reduceEqDiff, Nat.reduceLeDiff, Nat.reduceAdd, Nat.reduceSub, Nat.reduceMul, reduceCtorEq, Nat.succ_ne_zero, imp_T, imp_F, List.getElem?_nil, Int.reduceEq, Int.reduceLT, Int.reduceLE, Int.reduceNeg, Int.reduceAdd, Int.reduceSub, decide_true, decide_false, eq_self, not_true_eq_false, not_false_eq_true, ite_true, ite_false]
    refine ⟨?_, (((Ext.refl h).new _).new _).set (Nat.le_succ _) _⟩
    simp only [Told, Bool.false_and, Bool.false_eq_true, if_false]
    rfl
  | true =>
    simp +contextual only [↓wpA1, ↓wpA2, ↓wpA3, wpB1, wpB2, wpB3, wpB4, wpB5, wpB6, repeatV, RX.evs, spl, over, ones, Ex.ends, evR, oneOf, Option.isSome_some, Option.getD_some, if_true, if_false, true_and, and_true, List.getElem?_cons_zero, List.getElem?_cons_succ, List.length_cons, List.length_nil, List.drop_zero, List.drop_succ_cons, List.take_succ_cons, List.take_zero, List.cons_append, List.nil_append, Option.some.injEq, exists_eq_left', top, List.cons.injEq, ↓reduceIte, Nat.reduceEqDiff, Nat.reduceLeDiff, Nat.reduceAdd, Nat.reduceSub, Nat.reduceMul, reduceCtorEq, Nat.succ_ne_zero, imp_T, imp_F, List.getElem?_nil, Int.reduceEq, Int.reduceLT, Int.reduceLE, Int.reduceNeg, Int.reduceAdd, Int.reduceSub, decide_true, decide_false, eq_self, not_true_eq_false, not_false_eq_true, ite_true, ite_false]
    refine callK_intro (check_ctr ht v fs _ (hv.ext (((Ext.refl h).new _).new _))) ?_
    rintro x h1 ⟨rfl, hx⟩
    have g0 : h1.get (pa h.next) = .ofL [.int .i64 ht, v] 0 false := by
      rw [hx.get _ (old_lt (by simp only [next_new]; omega))]
      simp only [↓wpA1, ↓wpA2, ↓wpA3, wpB1, wpB2, wpB3, wpB4, wpB5, wpB6, repeatV, RX.evs, spl, over, ones, Ex.ends, evR, oneOf, Option.isSome_some, Option.getD_some, if_true, if_false, true_and, and_true, List.getElem?_cons_zero, List.getElem?_cons_succ, List.length_cons, List.length_nil, List.drop_zero, List.drop_succ_cons, List.take_succ_cons, List.take_zero, List.cons_append, List.nil_append, Option.some.injEq, exists_eq_left', top, List.cons.injEq, ↓reduceIte, Nat.reduceEqDiff, Nat.reduceLeDiff, Nat.reduceAdd, Nat.reduceSub, Nat.reduceMul, reduceCtorEq, Nat.succ_ne_zero, imp_T, imp_F, List.getElem?_nil, Int.reduceEq, Int.reduceLT, Int.reduceLE, Int.reduceNeg, Int.reduceAdd, Int.reduceSub, decide_true, decide_false, eq_self, not_true_eq_false, not_false_eq_true, ite_true, ite_false]
    have g1 : h1.get (pa (h.next + 1)) = .ofL [.int .i64 0, .nilslice] 0 false := by
      rw [hx.get _ (old_lt (by simp only [next_new]; omega))]
      simp only [↓wpA1, ↓wpA2, ↓wpA3, wpB1, wpB2, wpB3, wpB4, wpB5, wpB6, repeatV, RX.evs, spl, over, ones, Ex.ends, evR, oneOf, Option.isSome_some, Option.getD_some, if_true, if_false, true_and, and_true, List.getElem?_cons_zero, List.getElem?_cons_succ, List.length_cons, List.length_nil, List.drop_zero, List.drop_succ_cons, List.take_succ_cons, List.take_zero, List.cons_append, List.nil_append, Option.some.injEq, exists_eq_left', top, List.cons.injEq, ↓reduceIte, Nat.reduceEqDiff, Nat.reduceLeDiff, Nat.reduceAdd, Nat.reduceSub, Nat.reduceMul, reduceCtorEq, Nat.succ_ne_zero, imp_T, imp_F, List.getElem?_nil, Int.reduceEq, Int.reduceLT, Int.reduceLE, Int.reduceNeg, Int.reduceAdd, Int.reduceSub, decide_true, decide_false, eq_self, not_true_eq_false, not_false_eq_true, ite_true, ite_false]
    have hx0 : Ext h h1 := ((((Ext.refl h).new _).new _)).trans hx
    cases hc : checkB ht fs with
    | false =>
      simp +contextual only [hc, g0, g1, ↓wpA1, ↓wpA2, ↓wpA3, wpB1, wpB2, wpB3, wpB4, wpB5, wpB6, repeatV, RX.evs, spl, over, ones, Ex.ends, evR, oneOf, Option.isSome_some, Option.getD_some, if_true, if_false, true_and, and_true, List.getElem?_cons_zero, List.getElem?_cons_succ, List.length_cons, List.length_nil, List.drop_zero, List.drop_succ_cons, List.take_succ_cons, List.take_zero, List.cons_append, List.nil_append, Option.some.injEq, exists_eq_left', top, List.cons.injEq, ↓reduceIte, Nat.reduceEqDiff, Nat.reduceLeDiff, Nat.reduceAdd, Nat.reduceSub, Nat.reduceMul, reduceCtorEq, Nat.succ_ne_zero, imp_T, imp_F, List.getElem?_nil, Int.reduceEq, Int.reduceLT, Int.reduceLE, Int.reduceNeg, Int.reduceAdd, Int.reduceSub, decide_true, decide_false, eq_self, not_true_eq_false, not_false_eq_true, ite_true, ite_false]
      refine ⟨?_, hx0.set (Nat.le_succ _) _⟩
      simp only [Told, hc, Bool.and_false, Bool.false_eq_true, if_false]
      rfl
    | true =>
      obtain ⟨l1, l2, l3, l4⟩ := check_len hc
      simp +contextual only [hc, g0, g1, ↓wpA1, ↓wpA2, ↓wpA3, wpB1, wpB2, wpB3, wpB4, wpB5, wpB6, repeatV, RX.evs, spl, over, ones, Ex.ends, evR, oneOf, Option.isSome_some, Option.getD_some, if_true, if_false, true_and, and_true, List.getElem?_cons_zero, List.getElem?_cons_succ, List.length_cons, List.length_nil, List.drop_zero, List.drop_succ_cons, List.take_succ_cons, List.take_zero, List.cons_append, List.nil_append, Option.some.injEq, exists_eq_left', top, List.cons.injEq, ↓reduceIte, Nat.reduceEqDiff, Nat.reduceLeDiff, Nat.reduceAdd, Nat.reduceSub, Nat.reduceMul, reduceCtorEq, Nat.succ_ne_zero, imp_T, imp_F, List.getElem?_nil, Int.reduceEq, Int.reduceLT, Int.reduceLE, Int.reduceNeg, Int.reduceAdd, Int.reduceSub, decide_true, decide_false, eq_self, not_true_eq_false, not_false_eq_true, ite_true, ite_false]
      refine callK_intro (clone_ctr v fs _ (hv.ext hx0) (by omega)) ?_
      rintro v1 h2 ⟨ho, hx2⟩
      have nx1 : h.next + 2 ≤ h1.next := hx.next
      have k0 : h2.get (pa h.next) = .ofL [.int .i64 ht, v] 0 false := by rw [hx2.get _ (old_lt (by omega)), g0]
      have k1 : h2.get (pa (h.next + 1)) = .ofL [.int .i64 0, .nilslice] 0 false := by rw [hx2.get _ (old_lt (by omega)), g1]
      have hlen := ho.v.len
      have hidx : IntKind.i64.wrap ((fs.length : Int) - 1) = ((fs.length - 1 : Nat) : Int) := by rw [wrap_i64 (by omega) (by omega)]; omega
      obtain ⟨bt, off, hia, hat, hbt⟩ := ho.v.ia' (k := .i64) (i := fs.length - 1) (by omega)
      obtain ⟨hone, hcl, hgd⟩ := ho.v.one
      simp +contextual only [k0, k1, hlen, hidx, hia, hone, hcl, hgd, ↓wpA1, ↓wpA2, ↓wpA3, wpB1, wpB2, wpB3, wpB4, wpB5, wpB6, repeatV, RX.evs, spl, over, ones, Ex.ends, evR, oneOf, Option.isSome_some, Option.getD_some, if_true, if_false, true_and, and_true, List.getElem?_cons_zero, List.getElem?_cons_succ, List.length_cons, List.length_nil, List.drop_zero, List.drop_succ_cons, List.take_succ_cons, List.take_zero, List.cons_append, List.nil_append, Option.some.injEq, exists_eq_left', top, List.cons.injEq, ↓reduceIte, Nat.reduceEqDiff, Nat.reduceLeDiff, Nat.reduceAdd, Nat.reduceSub, Nat.reduceMul, reduceCtorEq, Nat.succ_ne_zero, imp_T, imp_F, List.getElem?_nil, Int.reduceEq, Int.reduceLT, Int.reduceLE, Int.reduceNeg, Int.reduceAdd, Int.reduceSub, decide_true, decide_false, eq_self, not_true_eq_false, not_false_eq_true, ite_true, ite_false]
      have hxe : Ext h (h2.set (pa h.next) (Blk.ofL [V.int IntKind.i64 ht, v1] 0 false)) := (hx0.trans hx2).set (Nat.le_refl _) _
      have hms : Mod (fun b => b = pa h.next) h2 (h2.set (pa h.next) (Blk.ofL [V.int IntKind.i64 ht, v1] 0 false)) := (Mod.refl (fun b => b = pa h.next) h2).set (fun _ => rfl) _
      have hnb : ∀ b, v1.blk b → ¬ b = pa h.next := fun b hb e => by have := ho.base hb; rw [e, unPa_pa] at this; omega
      have hnb1 : ∀ b, v1.blk b → ¬ b = pa (h.next + 1) := fun b hb e => by have := ho.base hb; rw [e, unPa_pa] at this; omega
      have hn2 : h1.next ≤ h2.next := hx2.next
      refine callK_intro (hT rfl _ (pa h.next) ht v1 fs bt off hxe (by rw [unPa_pa]; exact Nat.le_refl _) (old_lt (by rw [next_set]; omega)) (by rw [get_set, if_pos rfl]) hc
        ((ho.mod hms hnb).mono (by omega)) hbt (fun q => hnb _ q rfl) hia (hms.at hat (hnb _ hbt))) ?_
      rintro x h3 ⟨rfl, hm, hres⟩
      have hm0 : Mod (fun b => h.next ≤ unPa b) h h3 := by
        refine (hxe.mod _).trans (hm.mono fun b _ q => ?_)
        rcases q with rfl | q
        · rw [unPa_pa]; exact Nat.le_refl _
        · have := ho.base q; omega
      have hx3 : Ext h h3 := hm0.ext fun b hb q => by unfold Old at hb; omega
      have m1 : h3.get (pa (h.next + 1)) = .ofL [.int .i64 0, .nilslice] 0 false := by
        rw [hm.get _ (old_lt (by rw [next_set]; omega)) (fun q => q.elim (fun q => by rw [pa_eq] at q; omega) (fun q => hnb1 _ q rfl)), get_set, if_neg (fun q => by rw [pa_eq] at q; omega), k1]
      by_cases he : (T ht fs).1 = 0
      · obtain ⟨v2, r1, r2, r3⟩ := hres he
        obtain ⟨one2, cl2, gd2⟩ := r2.v.one
        simp +contextual only [he, m1, r1, one2, cl2, gd2, ↓wpA1, ↓wpA2, ↓wpA3, wpB1, wpB2, wpB3, wpB4, wpB5, wpB6, repeatV, RX.evs, spl, over, ones, Ex.ends, evR, oneOf, Option.isSome_some, Option.getD_some, if_true, if_false, true_and, and_true, List.getElem?_cons_zero, List.getElem?_cons_succ, List.length_cons, List.length_nil, List.drop_zero, List.drop_succ_cons, List.take_succ_cons, List.take_zero, List.cons_append, List.nil_append, Option.some.injEq, exists_eq_left', top, List.cons.injEq, ↓reduceIte, Nat.reduceEqDiff, Nat.reduceLeDiff, Nat.reduceAdd, Nat.reduceSub, Nat.reduceMul, reduceCtorEq, Nat.succ_ne_zero, imp_T, imp_F, List.getElem?_nil, Int.reduceEq, Int.reduceLT, Int.reduceLE, Int.reduceNeg, Int.reduceAdd, Int.reduceSub, decide_true, decide_false, eq_self, not_true_eq_false, not_false_eq_true, ite_true, ite_false]
        refine ⟨?_, hx3.set (Nat.le_succ _) _⟩
        simp only [Told, hc, Bool.and_self, if_true, he]
        refine ⟨v2, rfl, r2.mod ((Mod.refl (fun b => b = pa (h.next + 1)) h3).set (fun _ => rfl) _) fun b hb q => ?_⟩
        rcases r3 b hb with q' | q'
        · exact hnb1 b q' q
        · rw [q, unPa_pa, next_set] at q'; omega
      · simp +contextual only [he, m1, ↓wpA1, ↓wpA2, ↓wpA3, wpB1, wpB2, wpB3, wpB4, wpB5, wpB6, repeatV, RX.evs, spl, over, ones, Ex.ends, evR, oneOf, Option.isSome_some, Option.getD_some, if_true, if_false, true_and, and_true, List.getElem?_cons_zero, List.getElem?_cons_succ, List.length_cons, List.length_nil, List.drop_zero, List.drop_succ_cons, List.take_succ_cons, List.take_zero, List.cons_append, List.nil_append, Option.some.injEq, exists_eq_left', top, List.cons.injEq, ↓reduceIte, Nat.reduceEqDiff, Nat.reduceLeDiff, Nat.reduceAdd, Nat.reduceSub, Nat.reduceMul, reduceCtorEq, Nat.succ_ne_zero, imp_T, imp_F, List.getElem?_nil, Int.reduceEq, Int.reduceLT, Int.reduceLE, Int.reduceNeg, Int.reduceAdd, Int.reduceSub, decide_true, decide_false, eq_self, not_true_eq_false, not_false_eq_true, ite_true, ite_false]
        refine ⟨?_, hx3.set (Nat.le_succ _) _⟩
        simp only [Told, hc, Bool.and_self, if_true, he, if_false]
        rfl
end Go.Proofs.Ytkjifhoiiciblaa

namespace Go.Proofs.Ytkjifhoiiciblaa
open Go Am
set_option linter.unusedSimpArgs false
set_option linter.unusedVariables false

def lastF (fs : List Fm) : Fm := (fs[fs.length - 1]?).getD ⟨0, 0, 0, false⟩
theorem lastF_eq {fs : List Fm} (h : 1 ≤ fs.length) : lastF fs = fs[fs.length - 1] := by
  unfold lastF
  rw [List.getElem?_eq_getElem (by omega)]
  rfl
/-- what a stand that may be says of its frames -/
theorem okFrom_all {ht : Int} : ∀ {fs : List Fm} {i : Nat} {base : Int}, okFrom ht i base fs = true → ∀ f ∈ fs, base ≤ f.base ∧ f.base ≤ ht ∧ 0 ≤ f.res ∧ f.res ≤ 1
  | [], _, _, _, f, hf => by simp at hf
  | g :: fs, i, base, h, f, hf => by
    simp only [okFrom, Bool.and_eq_true] at h
    obtain ⟨h1, h2⟩ := h
    have h3 : base ≤ g.base ∧ g.base ≤ ht ∧ 0 ≤ g.res ∧ g.res ≤ 1 := by
      simp at h1
      omega
    simp only [List.mem_cons] at hf
    rcases hf with rfl | hf
    · exact h3
    · have := okFrom_all h2 f hf
      omega
theorem check_last {ht : Int} {fs : List Fm} (h : checkB ht fs = true) : 0 ≤ (lastF fs).base ∧ (lastF fs).base ≤ ht ∧ 0 ≤ (lastF fs).res ∧ (lastF fs).res ≤ 1 := by
  have hl := check_len h
  rw [lastF_eq hl.1]
  unfold checkB at h
  simp only [Bool.and_eq_true] at h
  exact okFrom_all h.2 _ (List.getElem_mem _)

def pushT (n : Int) : Turn := fun ht fs => if 1073741824 - ht < n then (8, 0, []) else (0, ht + n, fs)
def popT (n : Int) : Turn := fun ht fs => if ht - (lastF fs).base < n ∧ (lastF fs).dead = false then (200, 0, []) else (0, ht - (if ht - (lastF fs).base < n then ht - (lastF fs).base else n), fs)
def deadT : Turn := fun ht fs => (0, (lastF fs).base, fs.set (fs.length - 1) { lastF fs with dead := true })
def enterT (op res : Int) : Turn := fun ht fs => if 1000 ≤ fs.length then (8, 0, []) else (0, ht, fs ++ [⟨op, ht, res, false⟩])
def leaveT : Turn := fun ht fs => if (popT (lastF fs).res ht fs).1 ≠ 0 then ((popT (lastF fs).res ht fs).1, 0, []) else
  if (lastF fs).base < (popT (lastF fs).res ht fs).2.1 then (201, 0, []) else (0, (popT (lastF fs).res ht fs).2.1 + (lastF fs).res, fs.take (fs.length - 1))

theorem push_ctr (n ht : Int) (v : V) (bs : Pa) (h : Heap) (hn : 0 ≤ n) (hg : h.get bs = .ofL [.int .i64 ht, v] 0 false) (h0 : 0 ≤ ht) (h1 : ht ≤ 1073741824) :
    Ctr Try.prog 30 [.ptr bs 0, .int .i64 n] h fun x h' => x = .int .i64 (if 1073741824 - ht < n then 8 else 0) ∧ (if 1073741824 - ht < n then h' = h else h' = h.set bs (.ofL [.int .i64 (ht + n), v] 0 false)) := by
  refine c30_ctr rfl (wpK_of ?_)
  unfold c30
  have w1 : IntKind.i64.wrap (1073741824 - ht) = 1073741824 - ht := wrap_i64 (by omega) (by omega)
  simp +contextual only [hg, w1, ↓wpA1, ↓wpA2, ↓wpA3, wpB1, wpB2, wpB3, wpB4, wpB5, wpB6, repeatV, RX.evs, spl, over, ones, Ex.ends, evR, oneOf, Option.isSome_some, Option.getD_some, if_true, if_false, true_and, and_true, List.getElem?_cons_zero, List.getElem?_cons_succ, List.length_cons, List.length_nil, List.drop_zero, List.drop_succ_cons, List.take_succ_cons, List.take_zero, List.cons_append, List.nil_append, Option.some.injEq, exists_eq_left', top, List.cons.injEq, ↓reduceIte, Nat.reduceEqDiff, Nat.reduceLeDiff, Nat.reduceAdd, Nat.reduceSub, Nat.reduceMul, reduceCtorEq, Nat.succ_ne_zero, imp_T, imp_F, List.getElem?_nil, Int.reduceEq, Int.reduceLT, Int.reduceLE, Int.reduceNeg, Int.reduceAdd, Int.reduceSub, decide_true, decide_false, eq_self, not_true_eq_false, not_false_eq_true, ite_true, ite_false]
  by_cases hc : 1073741824 - ht < n
  · simp [hc]
  · have w2 : IntKind.i64.wrap (ht + n) = ht + n := wrap_i64 (by omega) (by omega)
    simp [hc, w2]

theorem push_turn (n : Int) (hn : 0 ≤ n) (h : Heap) (bn : Pa) (hbn : AtL h bn 0 [.int .i64 n]) : Turns 29 [.ptr bn 0] (pushT n) h h.next := by
  intro h1 bs ht v1 fs bt off hx hB hOld hget hc hown hbt hnb hia hat
  obtain ⟨l1, l2, l3, l4⟩ := check_len hc
  have ld : ld1B (h1.get bn) 0 = some (.int .i64 n) := (hbn.ext hx).ld1 (i := 0) (by simp)
  refine c29_ctr rfl (wpK_of ?_)
  unfold c29
  simp +contextual only [ld, hget, ↓wpA1, ↓wpA2, ↓wpA3, wpB1, wpB2, wpB3, wpB4, wpB5, wpB6, repeatV, RX.evs, spl, over, ones, Ex.ends, evR, oneOf, Option.isSome_some, Option.getD_some, if_true, if_false, true_and, and_true, List.getElem?_cons_zero, List.getElem?_cons_succ, List.length_cons, List.length_nil, List.drop_zero, List.drop_succ_cons, List.take_succ_cons, List.take_zero, List.cons_append, List.nil_append, Option.some.injEq, exists_eq_left', top, List.cons.injEq, ↓reduceIte, Nat.reduceEqDiff, Nat.reduceLeDiff, Nat.reduceAdd, Nat.reduceSub, Nat.reduceMul, reduceCtorEq, Nat.succ_ne_zero, imp_T, imp_F, List.getElem?_nil, Int.reduceEq, Int.reduceLT, Int.reduceLE, Int.reduceNeg, Int.reduceAdd, Int.reduceSub, decide_true, decide_false, eq_self, not_true_eq_false, not_false_eq_true, ite_true, ite_false]
  refine callK_intro (push_ctr n ht v1 bs h1 hn hget l3 l4) ?_
  rintro x h2 ⟨rfl, hh⟩
  simp +contextual only [↓wpA1, ↓wpA2, ↓wpA3, wpB1, wpB2, wpB3, wpB4, wpB5, wpB6, repeatV, RX.evs, spl, over, ones, Ex.ends, evR, oneOf, Option.isSome_some, Option.getD_some, if_true, if_false, true_and, and_true, List.getElem?_cons_zero, List.getElem?_cons_succ, List.length_cons, List.length_nil, List.drop_zero, List.drop_succ_cons, List.take_succ_cons, List.take_zero, List.cons_append, List.nil_append, Option.some.injEq, exists_eq_left', top, List.cons.injEq, ↓reduceIte, Nat.reduceEqDiff, Nat.reduceLeDiff, Nat.reduceAdd, Nat.reduceSub, Nat.reduceMul, reduceCtorEq, Nat.succ_ne_zero, imp_T, imp_F, List.getElem?_nil, Int.reduceEq, Int.reduceLT, Int.reduceLE, Int.reduceNeg, Int.reduceAdd, Int.reduceSub, decide_true, decide_false, eq_self, not_true_eq_false, not_false_eq_true, ite_true, ite_false]
  by_cases hcc : 1073741824 - ht < n
  · rw [if_pos hcc] at hh
    subst hh
    refine ⟨by simp [pushT, hcc], Mod.refl _ _, fun q => by simp [pushT, hcc] at q⟩
  · rw [if_neg hcc] at hh
    subst hh
    refine ⟨by simp [pushT, hcc], (Mod.refl _ _).set (fun _ => .inl rfl) _, fun _ => ⟨v1, ?_, ?_, fun b hb => .inl hb⟩⟩
    · rw [get_set, if_pos rfl]; simp [pushT, hcc]
    · simp only [pushT, hcc, if_false]
      exact hown.mod ((Mod.refl (fun b => b = bs) h1).set (fun _ => rfl) _) fun b hb q => hnb (q ▸ hb)

/-- the innermost frame, where a turn finds it -/
theorem top_cells {h1 : Heap} {bt : Pa} {off : Nat} {fs : List Fm} (hat : AtL h1 bt off (encs fs)) (hl : 1 ≤ fs.length) :
    ld1B (h1.get bt) (off + (fs.length - 1) * 4) = some (.int .i64 (lastF fs).op) ∧ ld1B (h1.get bt) (off + (fs.length - 1) * 4 + 1) = some (.int .i64 (lastF fs).base) ∧
    ld1B (h1.get bt) (off + (fs.length - 1) * 4 + 2) = some (.int .i64 (lastF fs).res) ∧ ld1B (h1.get bt) (off + (fs.length - 1) * 4 + 3) = some (.bool (lastF fs).dead) := by
  have hlt : fs.length - 1 < fs.length := by omega
  have key : ∀ j, j < 4 → ld1B (h1.get bt) (off + (fs.length - 1) * 4 + j) = (lastF fs).enc[j]? := fun j hj =>
    hat.cell (by rw [encs_at fs _ hlt, lastF_eq hl]) (by rw [encs_length]; omega) hj
  exact ⟨key 0 (by omega), key 1 (by omega), key 2 (by omega), key 3 (by omega)⟩

theorem pop_ctr (n ht : Int) (v : V) (bs bt : Pa) (o : Nat) (f : Fm) (h : Heap) (hn : 0 ≤ n) (hg : h.get bs = .ofL [.int .i64 ht, v] 0 false) (h0 : 0 ≤ f.base) (h1 : f.base ≤ ht) (h2 : ht ≤ 1073741824)
    (f1 : ld1B (h.get bt) (o + 1) = some (.int .i64 f.base)) (f3 : ld1B (h.get bt) (o + 3) = some (.bool f.dead)) :
    Ctr Try.prog 32 [.ptr bs 0, .ptr bt o, .int .i64 n] h fun x h' =>
      if ht - f.base < n ∧ f.dead = false then x = .int .i64 200 ∧ h' = h else x = .int .i64 0 ∧ h' = h.set bs (.ofL [.int .i64 (ht - (if ht - f.base < n then ht - f.base else n)), v] 0 false) := by
  refine c32_ctr rfl (wpK_of ?_)
  unfold c32
  have w1 : IntKind.i64.wrap (ht - f.base) = ht - f.base := wrap_i64 (by omega) (by omega)
  have w2 : IntKind.i64.wrap (ht - (if ht - f.base < n then ht - f.base else n)) = ht - (if ht - f.base < n then ht - f.base else n) := wrap_i64 (by split <;> omega) (by split <;> omega)
  simp +contextual only [hg, f1, f3, w1, w2, ↓wpA1, ↓wpA2, ↓wpA3, wpB1, wpB2, wpB3, wpB4, wpB5, wpB6, repeatV, RX.evs, spl, over, ones, Ex.ends, evR, oneOf, Option.isSome_some, Option.getD_some, if_true, if_false, true_and, and_true, List.getElem?_cons_zero, List.getElem?_cons_succ, List.length_cons, List.length_nil, List.drop_zero, List.drop_succ_cons, List.take_succ_cons, List.take_zero, List.cons_append, List.nil_append, Option.some.injEq, exists_eq_left', top, List.cons.injEq, ↓reduceIte, Nat.reduceEqDiff, Nat.reduceLeDiff, Nat.reduceAdd, Nat.reduceSub, Nat.reduceMul, reduceCtorEq, Nat.succ_ne_zero, imp_T, imp_F, List.getElem?_nil, Int.reduceEq, Int.reduceLT, Int.reduceLE, Int.reduceNeg, Int.reduceAdd, Int.reduceSub, decide_true, decide_false, eq_self, not_true_eq_false, not_false_eq_true, ite_true, ite_false]
  by_cases hc : ht - f.base < n <;> cases hd : f.dead <;> simp [hc]

theorem pop_turn (n : Int) (hn : 0 ≤ n) (h : Heap) (bn : Pa) (hbn : AtL h bn 0 [.int .i64 n]) : Turns 31 [.ptr bn 0] (popT n) h h.next := by
  intro h1 bs ht v1 fs bt off hx hB hOld hget hc hown hbt hnb hia hat
  obtain ⟨l1, l2, l3, l4⟩ := check_len hc
  obtain ⟨b1, b2, b3, b4⟩ := check_last hc
  obtain ⟨t0, t1, t2, t3⟩ := top_cells hat l1
  have ld : ld1B (h1.get bn) 0 = some (.int .i64 n) := (hbn.ext hx).ld1 (i := 0) (by simp)
  refine c31_ctr rfl (wpK_of ?_)
  unfold c31
  simp +contextual only [ld, hget, ↓wpA1, ↓wpA2, ↓wpA3, wpB1, wpB2, wpB3, wpB4, wpB5, wpB6, repeatV, RX.evs, spl, over, ones, Ex.ends, evR, oneOf, Option.isSome_some, Option.getD_some, if_true, if_false, true_and, and_true, List.getElem?_cons_zero, List.getElem?_cons_succ, List.length_cons, List.length_nil, List.drop_zero, List.drop_succ_cons, List.take_succ_cons, List.take_zero, List.cons_append, List.nil_append, Option.some.injEq, exists_eq_left', top, List.cons.injEq, ↓reduceIte, Nat.reduceEqDiff, Nat.reduceLeDiff, Nat.reduceAdd, Nat.reduceSub, Nat.reduceMul, reduceCtorEq, Nat.succ_ne_zero, imp_T, imp_F, List.getElem?_nil, Int.reduceEq, Int.reduceLT, Int.reduceLE, Int.reduceNeg, Int.reduceAdd, Int.reduceSub, decide_true, decide_false, eq_self, not_true_eq_false, not_false_eq_true, ite_true, ite_false]
  refine callK_intro (pop_ctr n ht v1 bs bt _ (lastF fs) h1 hn hget b1 b2 l4 t1 t3) ?_
  intro x h2 hh
  by_cases hcc : ht - (lastF fs).base < n ∧ (lastF fs).dead = false
  · rw [if_pos hcc] at hh
    obtain ⟨rfl, rfl⟩ := hh
    simp +contextual only [↓wpA1, ↓wpA2, ↓wpA3, wpB1, wpB2, wpB3, wpB4, wpB5, wpB6, repeatV, RX.evs, spl, over, ones, Ex.ends, evR, oneOf, Option.isSome_some, Option.getD_some, if_true, if_false, true_and, and_true, List.getElem?_cons_zero, List.getElem?_cons_succ, List.length_cons, List.length_nil, List.drop_zero, List.drop_succ_cons, List.take_succ_cons, List.take_zero, List.cons_append, List.nil_append, Option.some.injEq, exists_eq_left', top, List.cons.injEq, ↓reduceIte, Nat.reduceEqDiff, Nat.reduceLeDiff, Nat.reduceAdd, Nat.reduceSub, Nat.reduceMul, reduceCtorEq, Nat.succ_ne_zero, imp_T, imp_F, List.getElem?_nil, Int.reduceEq, Int.reduceLT, Int.reduceLE, Int.reduceNeg, Int.reduceAdd, Int.reduceSub, decide_true, decide_false, eq_self, not_true_eq_false, not_false_eq_true, ite_true, ite_false]
    refine ⟨by simp [popT, hcc], Mod.refl _ _, fun q => by simp [popT, hcc] at q⟩
  · rw [if_neg hcc] at hh
    obtain ⟨rfl, rfl⟩ := hh
    simp +contextual only [↓wpA1, ↓wpA2, ↓wpA3, wpB1, wpB2, wpB3, wpB4, wpB5, wpB6, repeatV, RX.evs, spl, over, ones, Ex.ends, evR, oneOf, Option.isSome_some, Option.getD_some, if_true, if_false, true_and, and_true, List.getElem?_cons_zero, List.getElem?_cons_succ, List.length_cons, List.length_nil, List.drop_zero, List.drop_succ_cons, List.take_succ_cons, List.take_zero, List.cons_append, List.nil_append, Option.some.injEq, exists_eq_left', top, List.cons.injEq, ↓reduceIte, Nat.reduceEqDiff, Nat.reduceLeDiff, Nat.reduceAdd, Nat.reduceSub, Nat.reduceMul, reduceCtorEq, Nat.succ_ne_zero, imp_T, imp_F, List.getElem?_nil, Int.reduceEq, Int.reduceLT, Int.reduceLE, Int.reduceNeg, Int.reduceAdd, Int.reduceSub, decide_true, decide_false, eq_self, not_true_eq_false, not_false_eq_true, ite_true, ite_false]
    refine ⟨by simp only [popT, if_neg hcc], (Mod.refl _ _).set (fun _ => .inl rfl) _, fun _ => ⟨v1, ?_, ?_, fun b hb => .inl hb⟩⟩
    · simp only [popT, if_neg hcc]
    · simp only [popT, if_neg hcc]
      exact hown.mod ((Mod.refl (fun b => b = bs) h1).set (fun _ => rfl) _) fun b hb q => hnb (q ▸ hb)

theorem encs_set_dead (fs : List Fm) (hl : 1 ≤ fs.length) : encs (fs.set (fs.length - 1) { lastF fs with dead := true }) = (encs fs).set ((fs.length - 1) * 4 + 3) (.bool true) := by
  have key : ∀ (fs : List Fm) (i : Nat) (hi : i < fs.length), encs (fs.set i { fs[i] with dead := true }) = (encs fs).set (i * 4 + 3) (.bool true) := by
    intro fs
    induction fs with
    | nil => intro i hi; simp at hi
    | cons f fs ih =>
      intro i hi
      cases i with
      | zero => simp [encs, Fm.enc]
      | succ i =>
        have := ih i (by simpa using hi)
        simp only [List.set_cons_succ, List.getElem_cons_succ]
        unfold encs at this ⊢
        rw [List.flatMap_cons, List.flatMap_cons, this]
        rw [show (i + 1) * 4 + 3 = f.enc.length + (i * 4 + 3) from by simp [Fm.enc]; omega]
        rw [List.set_append_right _ _ (by omega)]
        congr 2
        omega
  rw [lastF_eq hl]
  exact key fs _ (by omega)

theorem dead_turn (h : Heap) : Turns 35 [] deadT h h.next := by
  intro h1 bs ht v1 fs bt off hx hB hOld hget hc hown hbt hnb hia hat
  obtain ⟨l1, l2, l3, l4⟩ := check_len hc
  obtain ⟨t0, t1, t2, t3⟩ := top_cells hat l1
  have hne : (bs = bt) = False := eq_false fun e => hnb (e ▸ hbt)
  have hne' : (bt = bs) = False := eq_false fun e => hnb (e ▸ hbt)
  have hat' := at_ia hown.v (i := fs.length - 1) (by omega) hia
  obtain ⟨k, s1, s2, s3, s4⟩ := hown.putc hat' (c := (fs.length - 1) * 4 + 3) (by rw [encs_length]; omega) (y := .bool true) rfl rfl
  have s5 := s2 (h1.set bs (.ofL [.int .i64 (lastF fs).base, v1] 0 false)) (by rw [get_set]; simp only [hne, if_false])
  rw [← Nat.add_assoc] at s5
  refine c35_ctr rfl (wpK_of ?_)
  unfold c35
  simp +contextual only [t1, hget, hne, s5, ↓wpA1, ↓wpA2, ↓wpA3, wpB1, wpB2, wpB3, wpB4, wpB5, wpB6, repeatV, RX.evs, spl, over, ones, Ex.ends, evR, oneOf, Option.isSome_some, Option.getD_some, if_true, if_false, true_and, and_true, List.getElem?_cons_zero, List.getElem?_cons_succ, List.length_cons, List.length_nil, List.drop_zero, List.drop_succ_cons, List.take_succ_cons, List.take_zero, List.cons_append, List.nil_append, Option.some.injEq, exists_eq_left', top, List.cons.injEq, ↓reduceIte, Nat.reduceEqDiff, Nat.reduceLeDiff, Nat.reduceAdd, Nat.reduceSub, Nat.reduceMul, reduceCtorEq, Nat.succ_ne_zero, imp_T, imp_F, List.getElem?_nil, Int.reduceEq, Int.reduceLT, Int.reduceLE, Int.reduceNeg, Int.reduceAdd, Int.reduceSub, decide_true, decide_false, eq_self, not_true_eq_false, not_false_eq_true, ite_true, ite_false]
  have m1 : Mod (fun b => b = bs ∨ v1.blk b) h1 ((h1.set bs (.ofL [.int .i64 (lastF fs).base, v1] 0 false)).set bt k) :=
    ((Mod.refl _ _).set (fun _ => .inl rfl) _).set (fun _ => .inr hbt) _
  refine ⟨by simp [deadT], m1, fun _ => ⟨v1, ?_, ?_, fun b hb => .inl hb⟩⟩
  · simp only [hne', if_false]
    rfl
  · have e : (fs.set (fs.length - 1) { lastF fs with dead := true }).length = fs.length := by simp
    simp only [deadT]
    rw [encs_set_dead fs l1, e]
    have q : ((h1.set bs (.ofL [.int .i64 (lastF fs).base, v1] 0 false)).set bt k) = ((h1.set bt k).set bs (.ofL [.int .i64 (lastF fs).base, v1] 0 false)) := by
      unfold Heap.set
      rw [T.put_comm _ _ _ _ _ _ (fun e => by rw [e] at hne; simp at hne)]
    rw [q]
    exact s3.mod ((Mod.refl (fun b => b = bs) (h1.set bt k)).set (fun _ => rfl) _) fun b hb q => hnb (q ▸ hb)

theorem enter_turn (op res : Int) (h : Heap) (b1 b2 : Pa) (hb1 : AtL h b1 0 [.int .i64 op]) (hb2 : AtL h b2 0 [.int .i64 res]) : Turns 36 [.ptr b1 0, .ptr b2 0] (enterT op res) h h.next := by
  intro h1 bs ht v1 fs bt off hx hB hOld hget hc hown hbt hnb hia hat
  obtain ⟨l1, l2, l3, l4⟩ := check_len hc
  have ld1 : ld1B (h1.get b1) 0 = some (.int .i64 op) := (hb1.ext hx).ld1 (i := 0) (by simp)
  have ld2 : ld1B (h1.get b2) 0 = some (.int .i64 res) := (hb2.ext hx).ld1 (i := 0) (by simp)
  have n1 : (pa h1.next = b1) = False := old_ne (hb1.ext hx).1 (Nat.le_refl _)
  have n2 : (pa h1.next = b2) = False := old_ne (hb2.ext hx).1 (Nat.le_refl _)
  have n3 : (pa h1.next = bs) = False := old_ne hOld (Nat.le_refl _)
  have hlen := hown.v.len
  refine c36_ctr rfl (wpK_of ?_)
  unfold c36
  by_cases hcc : 1000 ≤ fs.length
  · have hci : (1000 : Int) ≤ (fs.length : Int) := by omega
    simp +contextual only [hget, hlen, hci, ↓wpA1, ↓wpA2, ↓wpA3, wpB1, wpB2, wpB3, wpB4, wpB5, wpB6, repeatV, RX.evs, spl, over, ones, Ex.ends, evR, oneOf, Option.isSome_some, Option.getD_some, if_true, if_false, true_and, and_true, List.getElem?_cons_zero, List.getElem?_cons_succ, List.length_cons, List.length_nil, List.drop_zero, List.drop_succ_cons, List.take_succ_cons, List.take_zero, List.cons_append, List.nil_append, Option.some.injEq, exists_eq_left', top, List.cons.injEq, ↓reduceIte, Nat.reduceEqDiff, Nat.reduceLeDiff, Nat.reduceAdd, Nat.reduceSub, Nat.reduceMul, reduceCtorEq, Nat.succ_ne_zero, imp_T, imp_F, List.getElem?_nil, Int.reduceEq, Int.reduceLT, Int.reduceLE, Int.reduceNeg, Int.reduceAdd, Int.reduceSub, decide_true, decide_false, eq_self, not_true_eq_false, not_false_eq_true, ite_true, ite_false]
    exact ⟨by simp [enterT, hcc], Mod.refl _ _, fun q => by simp [enterT, hcc] at q⟩
  · have hci : ¬ (1000 : Int) ≤ (fs.length : Int) := by omega
    have hnew : (h1.new (.ofL [.int .i64 op, .int .i64 ht, .int .i64 res, .bool false] 0 false)).get (pa h1.next) = .ofL [.int .i64 op, .int .i64 ht, .int .i64 res, .bool false] 0 false := get_new_self _
    have hx1 : SlV (h1.new (.ofL [.int .i64 op, .int .i64 ht, .int .i64 res, .bool false] 0 false)) 4 (.slice (pa h1.next) 0 1 1) 1 [.int .i64 op, .int .i64 ht, .int .i64 res, .bool false] :=
      ⟨rfl, rfl, old_self, _, .inr ⟨0, false, hnew⟩, Nat.le_refl _, rfl⟩
    have hmn : Mod v1.blk h1 (h1.new (.ofL [.int .i64 op, .int .i64 ht, .int .i64 res, .bool false] 0 false)) := (Mod.refl _ _).new _
    have hext : Ext h1 (h1.new (.ofL [.int .i64 op, .int .i64 ht, .int .i64 res, .bool false] 0 false)) := (Ext.refl _).new _
    obtain ⟨v2, h2, a1, a2, a3, a4⟩ := app_own (by omega) (hown.ext hext) hx1 (by have := hx.next; rw [next_new]; omega) (by unfold top; omega) rfl
    have g2 : h2.get bs = .ofL [.int .i64 ht, v1] 0 false := by
      rw [a3.get bs (old_new hOld) hnb, get_new]
      simp only [n3, if_false]
      exact hget
    obtain ⟨one2, cl2, gd2⟩ := a2.v.one
    simp +contextual only [hget, hlen, hci, ld1, ld2, n1, n2, n3, a1, g2, one2, cl2, gd2, ↓wpA1, ↓wpA2, ↓wpA3, wpB1, wpB2, wpB3, wpB4, wpB5, wpB6, repeatV, RX.evs, spl, over, ones, Ex.ends, evR, oneOf, Option.isSome_some, Option.getD_some, if_true, if_false, true_and, and_true, List.getElem?_cons_zero, List.getElem?_cons_succ, List.length_cons, List.length_nil, List.drop_zero, List.drop_succ_cons, List.take_succ_cons, List.take_zero, List.cons_append, List.nil_append, Option.some.injEq, exists_eq_left', top, List.cons.injEq, ↓reduceIte, Nat.reduceEqDiff, Nat.reduceLeDiff, Nat.reduceAdd, Nat.reduceSub, Nat.reduceMul, reduceCtorEq, Nat.succ_ne_zero, imp_T, imp_F, List.getElem?_nil, Int.reduceEq, Int.reduceLT, Int.reduceLE, Int.reduceNeg, Int.reduceAdd, Int.reduceSub, decide_true, decide_false, eq_self, not_true_eq_false, not_false_eq_true, ite_true, ite_false]
    refine ⟨by simp [enterT, hcc], ?_, fun _ => ⟨v2, ?_, ?_, ?_⟩⟩
    · exact ((hext.mod _).trans (a3.mono fun b _ q => .inr q)).set (fun _ => .inl rfl) _
    · simp only [enterT, hcc, if_false]
    · simp only [enterT, hcc, if_false]
      have e : encs (fs ++ [⟨op, ht, res, false⟩]) = encs fs ++ [.int .i64 op, .int .i64 ht, .int .i64 res, .bool false] := by simp [encs, Fm.enc]
      rw [e, List.length_append]
      refine a2.mod ((Mod.refl (fun b => b = bs) h2).set (fun _ => rfl) _) fun b hb q => ?_
      rcases a4 b hb with q' | q'
      · exact hnb (q ▸ q')
      · have : unPa bs < h1.next := hOld
        rw [q, next_new] at q'
        omega
    · intro b hb
      rcases a4 b hb with q' | q'
      · exact .inl q'
      · rw [next_new] at q'
        exact .inr (by omega)

theorem encs_take (fs : List Fm) (n : Nat) (hn : n ≤ fs.length) : (encs fs).take (n * 4) = encs (fs.take n) := by
  have h1 : encs fs = encs (fs.take n) ++ encs (fs.drop n) := by unfold encs; rw [← List.flatMap_append, List.take_append_drop]
  rw [h1, List.take_left' (by rw [encs_length, List.length_take]; omega)]

theorem leave_turn (h : Heap) : Turns 38 [] leaveT h h.next := by
  intro h1 bs ht v1 fs bt off hx hB hOld hget hc hown hbt hnb hia hat
  obtain ⟨l1, l2, l3, l4⟩ := check_len hc
  obtain ⟨b1, b2, b3, b4⟩ := check_last hc
  obtain ⟨t0, t1, t2, t3⟩ := top_cells hat l1
  have hlen := hown.v.len
  refine c38_ctr rfl (wpK_of ?_)
  unfold c38
  simp +contextual only [t1, t2, hget, ↓wpA1, ↓wpA2, ↓wpA3, wpB1, wpB2, wpB3, wpB4, wpB5, wpB6, repeatV, RX.evs, spl, over, ones, Ex.ends, evR, oneOf, Option.isSome_some, Option.getD_some, if_true, if_false, true_and, and_true, List.getElem?_cons_zero, List.getElem?_cons_succ, List.length_cons, List.length_nil, List.drop_zero, List.drop_succ_cons, List.take_succ_cons, List.take_zero, List.cons_append, List.nil_append, Option.some.injEq, exists_eq_left', top, List.cons.injEq, ↓reduceIte, Nat.reduceEqDiff, Nat.reduceLeDiff, Nat.reduceAdd, Nat.reduceSub, Nat.reduceMul, reduceCtorEq, Nat.succ_ne_zero, imp_T, imp_F, List.getElem?_nil, Int.reduceEq, Int.reduceLT, Int.reduceLE, Int.reduceNeg, Int.reduceAdd, Int.reduceSub, decide_true, decide_false, eq_self, not_true_eq_false, not_false_eq_true, ite_true, ite_false]
  refine callK_intro (pop_ctr (lastF fs).res ht v1 bs bt _ (lastF fs) h1 b3 hget b1 b2 l4 t1 t3) ?_
  intro x h2 hh
  by_cases hcc : ht - (lastF fs).base < (lastF fs).res ∧ (lastF fs).dead = false
  · rw [if_pos hcc] at hh
    obtain ⟨rfl, rfl⟩ := hh
    simp +contextual only [↓wpA1, ↓wpA2, ↓wpA3, wpB1, wpB2, wpB3, wpB4, wpB5, wpB6, repeatV, RX.evs, spl, over, ones, Ex.ends, evR, oneOf, Option.isSome_some, Option.getD_some, if_true, if_false, true_and, and_true, List.getElem?_cons_zero, List.getElem?_cons_succ, List.length_cons, List.length_nil, List.drop_zero, List.drop_succ_cons, List.take_succ_cons, List.take_zero, List.cons_append, List.nil_append, Option.some.injEq, exists_eq_left', top, List.cons.injEq, ↓reduceIte, Nat.reduceEqDiff, Nat.reduceLeDiff, Nat.reduceAdd, Nat.reduceSub, Nat.reduceMul, reduceCtorEq, Nat.succ_ne_zero, imp_T, imp_F, List.getElem?_nil, Int.reduceEq, Int.reduceLT, Int.reduceLE, Int.reduceNeg, Int.reduceAdd, Int.reduceSub, decide_true, decide_false, eq_self, not_true_eq_false, not_false_eq_true, ite_true, ite_false]
    have e : leaveT ht fs = (200, 0, []) := by simp [leaveT, popT, hcc]
    rw [e]
    exact ⟨rfl, Mod.refl _ _, fun q => by simp at q⟩
  · rw [if_neg hcc] at hh
    obtain ⟨rfl, rfl⟩ := hh
    generalize hh1 : (ht - (if ht - (lastF fs).base < (lastF fs).res then ht - (lastF fs).base else (lastF fs).res)) = ht1
    have hp : popT (lastF fs).res ht fs = (0, ht1, fs) := by simp only [popT, if_neg hcc, hh1]
    have r1 : (lastF fs).base ≤ ht1 ∧ ht1 ≤ ht := by rw [← hh1]; split <;> omega
    simp +contextual only [↓wpA1, ↓wpA2, ↓wpA3, wpB1, wpB2, wpB3, wpB4, wpB5, wpB6, repeatV, RX.evs, spl, over, ones, Ex.ends, evR, oneOf, Option.isSome_some, Option.getD_some, if_true, if_false, true_and, and_true, List.getElem?_cons_zero, List.getElem?_cons_succ, List.length_cons, List.length_nil, List.drop_zero, List.drop_succ_cons, List.take_succ_cons, List.take_zero, List.cons_append, List.nil_append, Option.some.injEq, exists_eq_left', top, List.cons.injEq, ↓reduceIte, Nat.reduceEqDiff, Nat.reduceLeDiff, Nat.reduceAdd, Nat.reduceSub, Nat.reduceMul, reduceCtorEq, Nat.succ_ne_zero, imp_T, imp_F, List.getElem?_nil, Int.reduceEq, Int.reduceLT, Int.reduceLE, Int.reduceNeg, Int.reduceAdd, Int.reduceSub, decide_true, decide_false, eq_self, not_true_eq_false, not_false_eq_true, ite_true, ite_false]
    by_cases hlt : (lastF fs).base < ht1
    · simp +contextual only [hlt, ↓wpA1, ↓wpA2, ↓wpA3, wpB1, wpB2, wpB3, wpB4, wpB5, wpB6, repeatV, RX.evs, spl, over, ones, Ex.ends, evR, oneOf, Option.isSome_some, Option.getD_some, if_true, if_false, true_and, and_true, List.getElem?_cons_zero, List.getElem?_cons_succ, List.length_cons, List.length_nil, List.drop_zero, List.drop_succ_cons, List.take_succ_cons, List.take_zero, List.cons_append, List.nil_append, Option.some.injEq, exists_eq_left', top, List.cons.injEq, ↓reduceIte, Nat.reduceEqDiff, Nat.reduceLeDiff, Nat.reduceAdd, Nat.reduceSub, Nat.reduceMul, reduceCtorEq, Nat.succ_ne_zero, imp_T, imp_F, List.getElem?_nil, Int.reduceEq, Int.reduceLT, Int.reduceLE, Int.reduceNeg, Int.reduceAdd, Int.reduceSub, decide_true, decide_false, eq_self, not_true_eq_false, not_false_eq_true, ite_true, ite_false]
      have e : leaveT ht fs = (201, 0, []) := by simp [leaveT, hp, hlt]
      rw [e]
      exact ⟨rfl, (Mod.refl _ _).set (fun _ => .inl rfl) _, fun q => by simp at q⟩
    · have hidx : IntKind.i64.wrap ((fs.length : Int) - 1) = ((fs.length - 1 : Nat) : Int) := by rw [wrap_i64 (by omega) (by omega)]; omega
      obtain ⟨v2, c1, c2, c3⟩ := hown.cut (k := .i64) (m := fs.length - 1) (by omega) l1
      obtain ⟨one2, cl2, gd2⟩ := c2.v.one
      have w2 : IntKind.i64.wrap (ht1 + (lastF fs).res) = ht1 + (lastF fs).res := wrap_i64 (by omega) (by omega)
      simp +contextual only [hlt, hlen, hidx, c1, one2, cl2, gd2, w2, ↓wpA1, ↓wpA2, ↓wpA3, wpB1, wpB2, wpB3, wpB4, wpB5, wpB6, repeatV, RX.evs, spl, over, ones, Ex.ends, evR, oneOf, Option.isSome_some, Option.getD_some, if_true, if_false, true_and, and_true, List.getElem?_cons_zero, List.getElem?_cons_succ, List.length_cons, List.length_nil, List.drop_zero, List.drop_succ_cons, List.take_succ_cons, List.take_zero, List.cons_append, List.nil_append, Option.some.injEq, exists_eq_left', top, List.cons.injEq, ↓reduceIte, Nat.reduceEqDiff, Nat.reduceLeDiff, Nat.reduceAdd, Nat.reduceSub, Nat.reduceMul, reduceCtorEq, Nat.succ_ne_zero, imp_T, imp_F, List.getElem?_nil, Int.reduceEq, Int.reduceLT, Int.reduceLE, Int.reduceNeg, Int.reduceAdd, Int.reduceSub, decide_true, decide_false, eq_self, not_true_eq_false, not_false_eq_true, ite_true, ite_false]
      have e : leaveT ht fs = (0, ht1 + (lastF fs).res, fs.take (fs.length - 1)) := by simp [leaveT, hp, hlt]
      rw [e]
      refine ⟨rfl, (((Mod.refl _ _).set (fun _ => .inl rfl) _).set (fun _ => .inl rfl) _).set (fun _ => .inl rfl) _, fun _ => ⟨v2, rfl, ?_, fun b hb => .inl (c3 b hb)⟩⟩
      simp only
      rw [show (fs.take (fs.length - 1)).length = fs.length - 1 from by rw [List.length_take]; omega, ← encs_take fs _ (by omega)]
      have m1 : Mod (fun b => b = bs) h1 _ := ((((Mod.refl (fun b => b = bs) h1).set (fun _ => rfl) (.ofL [.int .i64 ht1, v1] 0 false)).set (fun _ => rfl) (.ofL [.int .i64 ht1, v2] 0 false)).set (fun _ => rfl) (.ofL [.int .i64 (ht1 + (lastF fs).res), v2] 0 false))
      exact c2.mod m1 fun b hb q => hnb (q ▸ c3 b hb)
end Go.Proofs.Ytkjifhoiiciblaa

namespace Go.Proofs.Ytkjifhoiiciblaa
open Go Am
set_option linter.unusedSimpArgs false
set_option linter.unusedVariables false

theorem told_shape {B : Nat} {T : Turn} {fine : Bool} {ht : Int} {fs : List Fm} {x : V} {h' : Heap} (H : Told B T fine ht fs x h') :
    ∃ ht' v' e, x = .tuple [.agg [.int .i64 ht', v'], .int .i64 e] ∧ v'.one = true ∧ v'.cells = [v'] ∧ v'.good = true := by
  unfold Told at H
  split at H
  · split at H
    · obtain ⟨v2, rfl, h2⟩ := H
      exact ⟨_, _, _, rfl, h2.v.one⟩
    · exact ⟨_, _, _, H, rfl, rfl, rfl⟩
  · exact ⟨_, _, _, H, rfl, rfl, rfl⟩

theorem told_mono {B B' : Nat} {T : Turn} {fine : Bool} {ht : Int} {fs : List Fm} {x : V} {h' h'' : Heap} (H : Told B T fine ht fs x h') (hB : B' ≤ B) {M : Pa → Prop} (m : Mod M h' h'') (hM : ∀ b, M b → unPa b < B) : Told B' T fine ht fs x h'' := by
  unfold Told at H ⊢
  split at H
  · rename_i c
    rw [if_pos c]
    split at H
    · rename_i c2
      rw [if_pos c2]
      obtain ⟨v2, rfl, h2⟩ := H
      exact ⟨v2, rfl, (h2.mod m fun b hb q => by have := hM b q; have := h2.base hb; omega).mono hB⟩
    · rename_i c2
      rw [if_neg c2]
      exact H
  · rename_i c
    rw [if_neg c]
    exact H

theorem push_api (n ht : Int) (v : V) (fs : List Fm) (h : Heap) (hv : SlV h 4 v fs.length (encs fs)) :
    Ctr Try.prog 9 [.agg [.int .i64 ht, v], .int .i64 n] h fun x h' => Told h.next (pushT n) (decide (0 ≤ n)) ht fs x h' ∧ Ext h h' := by
  obtain ⟨one0, cl0, gd0⟩ := hv.one
  refine c9_ctr rfl (wpK_of ?_)
  unfold c9
  simp +contextual only [one0, cl0, gd0, ↓wpA1, ↓wpA2, ↓wpA3, wpB1, wpB2, wpB3, wpB4, wpB5, wpB6, repeatV, RX.evs, spl, over, ones, Ex.ends, evR, oneOf, Option.isSome_some, Option.getD_some, if_true, if_false, true_and, and_true, List.getElem?_cons_zero, List.getElem?_cons_succ, List.length_cons, List.length_nil, List.drop_zero, List.drop_succ_cons, List.take_succ_cons, List.take_zero, List.cons_append, List.nil_append, Option.some.injEq, exists_eq_left', top, List.cons.injEq, ↓reduceIte, Nat.reduceEqDiff, Nat.reduceLeDiff, Nat.reduceAdd, Nat.reduceSub, Nat.reduceMul, reduceCtorEq, Nat.succ_ne_zero, imp_T, imp_F, List.getElem?_nil, Int.reduceEq, Int.reduceLT, Int.reduceLE, Int.reduceNeg, Int.reduceAdd, Int.reduceSub, decide_true, decide_false, eq_self, not_true_eq_false, not_false_eq_true, ite_true, ite_false]
  have hx : Ext h (((h.new (.ofL [.int .i64 ht, v] 0 false)).new (.ofL [.int .i64 n] 0 false)).new (.ofL [.int .i64 0, .nilslice] 0 false)) := (((Ext.refl h).new _).new _).new _
  refine callK_intro (turned_ctr 29 _ (pushT n) ht v fs (decide (0 ≤ n)) _ (hv.ext hx) fun hf => push_turn n (by simpa using hf) _ _ ⟨old_lt (by simp only [next_new]; omega), [.int .i64 n], .inr ⟨0, false, ?_⟩, by simp, by simp⟩) ?_
  · simp only [↓wpA1, ↓wpA2, ↓wpA3, wpB1, wpB2, wpB3, wpB4, wpB5, wpB6, repeatV, RX.evs, spl, over, ones, Ex.ends, evR, oneOf, Option.isSome_some, Option.getD_some, if_true, if_false, true_and, and_true, List.getElem?_cons_zero, List.getElem?_cons_succ, List.length_cons, List.length_nil, List.drop_zero, List.drop_succ_cons, List.take_succ_cons, List.take_zero, List.cons_append, List.nil_append, Option.some.injEq, exists_eq_left', top, List.cons.injEq, ↓reduceIte, Nat.reduceEqDiff, Nat.reduceLeDiff, Nat.reduceAdd, Nat.reduceSub, Nat.reduceMul, reduceCtorEq, Nat.succ_ne_zero, imp_T, imp_F, List.getElem?_nil, Int.reduceEq, Int.reduceLT, Int.reduceLE, Int.reduceNeg, Int.reduceAdd, Int.reduceSub, decide_true, decide_false, eq_self, not_true_eq_false, not_false_eq_true, ite_true, ite_false]
  · rintro x h1 ⟨hr, hx1⟩
    obtain ⟨ht', v', e, rfl, one1, cl1, gd1⟩ := told_shape hr
    have g2 : h1.get (pa (h.next + 2)) = .ofL [.int .i64 0, .nilslice] 0 false := by
      rw [hx1.get _ (old_lt (by simp only [next_new]; omega))]
      simp only [↓wpA1, ↓wpA2, ↓wpA3, wpB1, wpB2, wpB3, wpB4, wpB5, wpB6, repeatV, RX.evs, spl, over, ones, Ex.ends, evR, oneOf, Option.isSome_some, Option.getD_some, if_true, if_false, true_and, and_true, List.getElem?_cons_zero, List.getElem?_cons_succ, List.length_cons, List.length_nil, List.drop_zero, List.drop_succ_cons, List.take_succ_cons, List.take_zero, List.cons_append, List.nil_append, Option.some.injEq, exists_eq_left', top, List.cons.injEq, ↓reduceIte, Nat.reduceEqDiff, Nat.reduceLeDiff, Nat.reduceAdd, Nat.reduceSub, Nat.reduceMul, reduceCtorEq, Nat.succ_ne_zero, imp_T, imp_F, List.getElem?_nil, Int.reduceEq, Int.reduceLT, Int.reduceLE, Int.reduceNeg, Int.reduceAdd, Int.reduceSub, decide_true, decide_false, eq_self, not_true_eq_false, not_false_eq_true, ite_true, ite_false]
    simp +contextual only [g2, one1, cl1, gd1, ↓wpA1, ↓wpA2, ↓wpA3, wpB1, wpB2, wpB3, wpB4, wpB5, wpB6, repeatV, RX.evs, spl, over, ones, Ex.ends, evR, oneOf, Option.isSome_some, Option.getD_some, if_true, if_false, true_and, and_true, List.getElem?_cons_zero, List.getElem?_cons_succ, List.length_cons, List.length_nil, List.drop_zero, List.drop_succ_cons, List.take_succ_cons, List.take_zero, List.cons_append, List.nil_append, Option.some.injEq, exists_eq_left', top, List.cons.injEq, ↓reduceIte, Nat.reduceEqDiff, Nat.reduceLeDiff, Nat.reduceAdd, Nat.reduceSub, Nat.reduceMul, reduceCtorEq, Nat.succ_ne_zero, imp_T, imp_F, List.getElem?_nil, Int.reduceEq, Int.reduceLT, Int.reduceLE, Int.reduceNeg, Int.reduceAdd, Int.reduceSub, decide_true, decide_false, eq_self, not_true_eq_false, not_false_eq_true, ite_true, ite_false]
    refine ⟨told_mono hr (by simp only [next_new]; omega) ((Mod.refl (fun b => b = pa (h.next + 2)) h1).set (fun _ => rfl) _) (fun b q => by rw [q, unPa_pa]; simp only [next_new]; omega), (hx.trans hx1).set (by omega) _⟩

theorem pop_api (n ht : Int) (v : V) (fs : List Fm) (h : Heap) (hv : SlV h 4 v fs.length (encs fs)) :
    Ctr Try.prog 10 [.agg [.int .i64 ht, v], .int .i64 n] h fun x h' => Told h.next (popT n) (decide (0 ≤ n)) ht fs x h' ∧ Ext h h' := by
  obtain ⟨one0, cl0, gd0⟩ := hv.one
  refine c10_ctr rfl (wpK_of ?_)
  unfold c10
  simp +contextual only [one0, cl0, gd0, ↓wpA1, ↓wpA2, ↓wpA3, wpB1, wpB2, wpB3, wpB4, wpB5, wpB6, repeatV, RX.evs, spl, over, ones, Ex.ends, evR, oneOf, Option.isSome_some, Option.getD_some, if_true, if_false, true_and, and_true, List.getElem?_cons_zero, List.getElem?_cons_succ, List.length_cons, List.length_nil, List.drop_zero, List.drop_succ_cons, List.take_succ_cons, List.take_zero, List.cons_append, List.nil_append, Option.some.injEq, exists_eq_left', top, List.cons.injEq, ↓reduceIte, Nat.reduceEqDiff, Nat.reduceLeDiff, Nat.reduceAdd, Nat.reduceSub, Nat.reduceMul, reduceCtorEq, Nat.succ_ne_zero, imp_T, imp_F, List.getElem?_nil, Int.reduceEq, Int.reduceLT, Int.reduceLE, Int.reduceNeg, Int.reduceAdd, Int.reduceSub, decide_true, decide_false, eq_self, not_true_eq_false, not_false_eq_true, ite_true, ite_false]
  have hx : Ext h (((h.new (.ofL [.int .i64 ht, v] 0 false)).new (.ofL [.int .i64 n] 0 false)).new (.ofL [.int .i64 0, .nilslice] 0 false)) := (((Ext.refl h).new _).new _).new _
  refine callK_intro (turned_ctr 31 _ (popT n) ht v fs (decide (0 ≤ n)) _ (hv.ext hx) fun hf => pop_turn n (by simpa using hf) _ _ ⟨old_lt (by simp only [next_new]; omega), [.int .i64 n], .inr ⟨0, false, ?_⟩, by simp, by simp⟩) ?_
  · simp only [↓wpA1, ↓wpA2, ↓wpA3, wpB1, wpB2, wpB3, wpB4, wpB5, wpB6, repeatV, RX.evs, spl, over, ones, Ex.ends, evR, oneOf, Option.isSome_some, Option.getD_some, if_true, if_false, true_and, and_true, List.getElem?_cons_zero, List.getElem?_cons_succ, List.length_cons, List.length_nil, List.drop_zero, List.drop_succ_cons, List.take_succ_cons, List.take_zero, List.cons_append, List.nil_append, Option.some.injEq, exists_eq_left', top, List.cons.injEq, ↓reduceIte, Nat.reduceEqDiff, Nat.reduceLeDiff, Nat.reduceAdd, Nat.reduceSub, Nat.reduceMul, reduceCtorEq, Nat.succ_ne_zero, imp_T, imp_F, List.getElem?_nil, Int.reduceEq, Int.reduceLT, Int.reduceLE, Int.reduceNeg, Int.reduceAdd, Int.reduceSub, decide_true, decide_false, eq_self, not_true_eq_false, not_false_eq_true, ite_true, ite_false]
  · rintro x h1 ⟨hr, hx1⟩
    obtain ⟨ht', v', e, rfl, one1, cl1, gd1⟩ := told_shape hr
    have g2 : h1.get (pa (h.next + 2)) = .ofL [.int .i64 0, .nilslice] 0 false := by
      rw [hx1.get _ (old_lt (by simp only [next_new]; omega))]
      simp only [↓wpA1, ↓wpA2, ↓wpA3, wpB1, wpB2, wpB3, wpB4, wpB5, wpB6, repeatV, RX.evs, spl, over, ones, Ex.ends, evR, oneOf, Option.isSome_some, Option.getD_some, if_true, if_false, true_and, and_true, List.getElem?_cons_zero, List.getElem?_cons_succ, List.length_cons, List.length_nil, List.drop_zero, List.drop_succ_cons, List.take_succ_cons, List.take_zero, List.cons_append, List.nil_append, Option.some.injEq, exists_eq_left', top, List.cons.injEq, ↓reduceIte, Nat.reduceEqDiff, Nat.reduceLeDiff, Nat.reduceAdd, Nat.reduceSub, Nat.reduceMul, reduceCtorEq, Nat.succ_ne_zero, imp_T, imp_F, List.getElem?_nil, Int.reduceEq, Int.reduceLT, Int.reduceLE, Int.reduceNeg, Int.reduceAdd, Int.reduceSub, decide_true, decide_false, eq_self, not_true_eq_false, not_false_eq_true, ite_true, ite_false]
    simp +contextual only [g2, one1, cl1, gd1, ↓wpA1, ↓wpA2, ↓wpA3, wpB1, wpB2, wpB3, wpB4, wpB5, wpB6, repeatV, RX.evs, spl, over, ones, Ex.ends, evR, oneOf, Option.isSome_some, Option.getD_some, if_true, if_false, true_and, and_true, List.getElem?_cons_zero, List.getElem?_cons_succ, List.length_cons, List.length_nil, List.drop_zero, List.drop_succ_cons, List.take_succ_cons, List.take_zero, List.cons_append, List.nil_append, Option.some.injEq, exists_eq_left', top, List.cons.injEq, ↓reduceIte, Nat.reduceEqDiff, Nat.reduceLeDiff, Nat.reduceAdd, Nat.reduceSub, Nat.reduceMul, reduceCtorEq, Nat.succ_ne_zero, imp_T, imp_F, List.getElem?_nil, Int.reduceEq, Int.reduceLT, Int.reduceLE, Int.reduceNeg, Int.reduceAdd, Int.reduceSub, decide_true, decide_false, eq_self, not_true_eq_false, not_false_eq_true, ite_true, ite_false]
    refine ⟨told_mono hr (by simp only [next_new]; omega) ((Mod.refl (fun b => b = pa (h.next + 2)) h1).set (fun _ => rfl) _) (fun b q => by rw [q, unPa_pa]; simp only [next_new]; omega), (hx.trans hx1).set (by omega) _⟩

theorem dead_api (ht : Int) (v : V) (fs : List Fm) (h : Heap) (hv : SlV h 4 v fs.length (encs fs)) :
    Ctr Try.prog 16 [.agg [.int .i64 ht, v]] h fun x h' => Told h.next deadT true ht fs x h' ∧ Ext h h' := by
  obtain ⟨one0, cl0, gd0⟩ := hv.one
  refine c16_ctr rfl (wpK_of ?_)
  unfold c16
  simp +contextual only [one0, cl0, gd0, ↓wpA1, ↓wpA2, ↓wpA3, wpB1, wpB2, wpB3, wpB4, wpB5, wpB6, repeatV, RX.evs, spl, over, ones, Ex.ends, evR, oneOf, Option.isSome_some, Option.getD_some, if_true, if_false, true_and, and_true, List.getElem?_cons_zero, List.getElem?_cons_succ, List.length_cons, List.length_nil, List.drop_zero, List.drop_succ_cons, List.take_succ_cons, List.take_zero, List.cons_append, List.nil_append, Option.some.injEq, exists_eq_left', top, List.cons.injEq, ↓reduceIte, Nat.reduceEqDiff, Nat.reduceLeDiff, Nat.reduceAdd, Nat.reduceSub, Nat.reduceMul, reduceCtorEq, Nat.succ_ne_zero, imp_T, imp_F, List.getElem?_nil, Int.reduceEq, Int.reduceLT, Int.reduceLE, Int.reduceNeg, Int.reduceAdd, Int.reduceSub, decide_true, decide_false, eq_self, not_true_eq_false, not_false_eq_true, ite_true, ite_false]
  have hx : Ext h ((h.new (.ofL [.int .i64 ht, v] 0 false)).new (.ofL [.int .i64 0, .nilslice] 0 false)) := ((Ext.refl h).new _).new _
  refine callK_intro (turned_ctr 35 _ deadT ht v fs true _ (hv.ext hx) fun hf => dead_turn _) ?_
  · rintro x h1 ⟨hr, hx1⟩
    obtain ⟨ht', v', e, rfl, one1, cl1, gd1⟩ := told_shape hr
    have g2 : h1.get (pa (h.next + 1)) = .ofL [.int .i64 0, .nilslice] 0 false := by
      rw [hx1.get _ (old_lt (by simp only [next_new]; omega))]
      simp only [↓wpA1, ↓wpA2, ↓wpA3, wpB1, wpB2, wpB3, wpB4, wpB5, wpB6, repeatV, RX.evs, spl, over, ones, Ex.ends, evR, oneOf, Option.isSome_some, Option.getD_some, if_true, if_false, true_and, and_true, List.getElem?_cons_zero, List.getElem?_cons_succ, List.length_cons, List.length_nil, List.drop_zero, List.drop_succ_cons, List.take_succ_cons, List.take_zero, List.cons_append, List.nil_append, Option.some.injEq, exists_eq_left', top, List.cons.injEq, ↓reduceIte, Nat.reduceEqDiff, Nat.reduceLeDiff, Nat.reduceAdd, Nat.reduceSub, Nat.reduceMul, reduceCtorEq, Nat.succ_ne_zero, imp_T, imp_F, List.getElem?_nil, Int.reduceEq, Int.reduceLT, Int.reduceLE, Int.reduceNeg, Int.reduceAdd, Int.reduceSub, decide_true, decide_false, eq_self, not_true_eq_false, not_false_eq_true, ite_true, ite_false]
    simp +contextual only [g2, one1, cl1, gd1, ↓wpA1, ↓wpA2, ↓wpA3, wpB1, wpB2, wpB3, wpB4, wpB5, wpB6, repeatV, RX.evs, spl, over, ones, Ex.ends, evR, oneOf, Option.isSome_some, Option.getD_some, if_true, if_false, true_and, and_true, List.getElem?_cons_zero, List.getElem?_cons_succ, List.length_cons, List.length_nil, List.drop_zero, List.drop_succ_cons, List.take_succ_cons, List.take_zero, List.cons_append, List.nil_append, Option.some.injEq, exists_eq_left', top, List.cons.injEq, ↓reduceIte, Nat.reduceEqDiff, Nat.reduceLeDiff, Nat.reduceAdd, Nat.reduceSub, Nat.reduceMul, reduceCtorEq, Nat.succ_ne_zero, imp_T, imp_F, List.getElem?_nil, Int.reduceEq, Int.reduceLT, Int.reduceLE, Int.reduceNeg, Int.reduceAdd, Int.reduceSub, decide_true, decide_false, eq_self, not_true_eq_false, not_false_eq_true, ite_true, ite_false]
    refine ⟨told_mono hr (by simp only [next_new]; omega) ((Mod.refl (fun b => b = pa (h.next + 1)) h1).set (fun _ => rfl) _) (fun b q => by rw [q, unPa_pa]; simp only [next_new]; omega), (hx.trans hx1).set (by omega) _⟩

theorem leave_api (ht : Int) (v : V) (fs : List Fm) (h : Heap) (hv : SlV h 4 v fs.length (encs fs)) :
    Ctr Try.prog 20 [.agg [.int .i64 ht, v]] h fun x h' => Told h.next leaveT true ht fs x h' ∧ Ext h h' := by
  obtain ⟨one0, cl0, gd0⟩ := hv.one
  refine c20_ctr rfl (wpK_of ?_)
  unfold c20
  simp +contextual only [one0, cl0, gd0, ↓wpA1, ↓wpA2, ↓wpA3, wpB1, wpB2, wpB3, wpB4, wpB5, wpB6, repeatV, RX.evs, spl, over, ones, Ex.ends, evR, oneOf, Option.isSome_some, Option.getD_some, if_true, if_false, true_and, and_true, List.getElem?_cons_zero, List.getElem?_cons_succ, List.length_cons, List.length_nil, List.drop_zero, List.drop_succ_cons, List.take_succ_cons, List.take_zero, List.cons_append, List.nil_append, Option.some.injEq, exists_eq_left', top, List.cons.injEq, ↓reduceIte, Nat.reduceEqDiff, Nat.reduceLeDiff, Nat.reduceAdd, Nat.reduceSub, Nat.reduceMul, reduceCtorEq, Nat.succ_ne_zero, imp_T, imp_F, List.getElem?_nil, Int.reduceEq, Int.reduceLT, Int.reduceLE, Int.reduceNeg, Int.reduceAdd, Int.reduceSub, decide_true, decide_false, eq_self, not_true_eq_false, not_false_eq_true, ite_true, ite_false]
  have hx : Ext h ((h.new (.ofL [.int .i64 ht, v] 0 false)).new (.ofL [.int .i64 0, .nilslice] 0 false)) := ((Ext.refl h).new _).new _
  refine callK_intro (turned_ctr 38 _ leaveT ht v fs true _ (hv.ext hx) fun hf => leave_turn _) ?_
  · rintro x h1 ⟨hr, hx1⟩
    obtain ⟨ht', v', e, rfl, one1, cl1, gd1⟩ := told_shape hr
    have g2 : h1.get (pa (h.next + 1)) = .ofL [.int .i64 0, .nilslice] 0 false := by
      rw [hx1.get _ (old_lt (by simp only [next_new]; omega))]
      simp only [↓wpA1, ↓wpA2, ↓wpA3, wpB1, wpB2, wpB3, wpB4, wpB5, wpB6, repeatV, RX.evs, spl, over, ones, Ex.ends, evR, oneOf, Option.isSome_some, Option.getD_some, if_true, if_false, true_and, and_true, List.getElem?_cons_zero, List.getElem?_cons_succ, List.length_cons, List.length_nil, List.drop_zero, List.drop_succ_cons, List.take_succ_cons, List.take_zero, List.cons_append, List.nil_append, Option.some.injEq, exists_eq_left', top, List.cons.injEq, ↓reduceIte, Nat.reduceEqDiff, Nat.reduceLeDiff, Nat.reduceAdd, Nat.reduceSub, Nat.reduceMul, reduceCtorEq, Nat.succ_ne_zero, imp_T, imp_F, List.getElem?_nil, Int.reduceEq, Int.reduceLT, Int.reduceLE, Int.reduceNeg, Int.reduceAdd, Int.reduceSub, decide_true, decide_false, eq_self, not_true_eq_false, not_false_eq_true, ite_true, ite_false]
    simp +contextual only [g2, one1, cl1, gd1, ↓wpA1, ↓wpA2, ↓wpA3, wpB1, wpB2, wpB3, wpB4, wpB5, wpB6, repeatV, RX.evs, spl, over, ones, Ex.ends, evR, oneOf, Option.isSome_some, Option.getD_some, if_true, if_false, true_and, and_true, List.getElem?_cons_zero, List.getElem?_cons_succ, List.length_cons, List.length_nil, List.drop_zero, List.drop_succ_cons, List.take_succ_cons, List.take_zero, List.cons_append, List.nil_append, Option.some.injEq, exists_eq_left', top, List.cons.injEq, ↓reduceIte, Nat.reduceEqDiff, Nat.reduceLeDiff, Nat.reduceAdd, Nat.reduceSub, Nat.reduceMul, reduceCtorEq, Nat.succ_ne_zero, imp_T, imp_F, List.getElem?_nil, Int.reduceEq, Int.reduceLT, Int.reduceLE, Int.reduceNeg, Int.reduceAdd, Int.reduceSub, decide_true, decide_false, eq_self, not_true_eq_false, not_false_eq_true, ite_true, ite_false]
    refine ⟨told_mono hr (by simp only [next_new]; omega) ((Mod.refl (fun b => b = pa (h.next + 1)) h1).set (fun _ => rfl) _) (fun b q => by rw [q, unPa_pa]; simp only [next_new]; omega), (hx.trans hx1).set (by omega) _⟩

theorem enter_api (op res ht : Int) (v : V) (fs : List Fm) (h : Heap) (hv : SlV h 4 v fs.length (encs fs)) :
    Ctr Try.prog 18 [.agg [.int .i64 ht, v], .int .i64 op, .int .i64 res] h fun x h' => Told h.next (enterT op res) (isList op && decide (0 ≤ res) && decide (res ≤ 1)) ht fs x h' ∧ Ext h h' := by
  obtain ⟨one0, cl0, gd0⟩ := hv.one
  refine c18_ctr rfl (wpK_of ?_)
  unfold c18
  simp +contextual only [one0, cl0, gd0, ↓wpA1, ↓wpA2, ↓wpA3, wpB1, wpB2, wpB3, wpB4, wpB5, wpB6, repeatV, RX.evs, spl, over, ones, Ex.ends, evR, oneOf, Option.isSome_some, Option.getD_some, if_true, if_false, true_and, and_true, List.getElem?_cons_zero, List.getElem?_cons_succ, List.length_cons, List.length_nil, List.drop_zero, List.drop_succ_cons, List.take_succ_cons, List.take_zero, List.cons_append, List.nil_append, Option.some.injEq, exists_eq_left', top, List.cons.injEq, ↓reduceIte, Nat.reduceEqDiff, Nat.reduceLeDiff, Nat.reduceAdd, Nat.reduceSub, Nat.reduceMul, reduceCtorEq, Nat.succ_ne_zero, imp_T, imp_F, List.getElem?_nil, Int.reduceEq, Int.reduceLT, Int.reduceLE, Int.reduceNeg, Int.reduceAdd, Int.reduceSub, decide_true, decide_false, eq_self, not_true_eq_false, not_false_eq_true, ite_true, ite_false]
  refine callK_pure (list_pure op _) ?_
  simp +contextual only [one0, cl0, gd0, ↓wpA1, ↓wpA2, ↓wpA3, wpB1, wpB2, wpB3, wpB4, wpB5, wpB6, repeatV, RX.evs, spl, over, ones, Ex.ends, evR, oneOf, Option.isSome_some, Option.getD_some, if_true, if_false, true_and, and_true, List.getElem?_cons_zero, List.getElem?_cons_succ, List.length_cons, List.length_nil, List.drop_zero, List.drop_succ_cons, List.take_succ_cons, List.take_zero, List.cons_append, List.nil_append, Option.some.injEq, exists_eq_left', top, List.cons.injEq, ↓reduceIte, Nat.reduceEqDiff, Nat.reduceLeDiff, Nat.reduceAdd, Nat.reduceSub, Nat.reduceMul, reduceCtorEq, Nat.succ_ne_zero, imp_T, imp_F, List.getElem?_nil, Int.reduceEq, Int.reduceLT, Int.reduceLE, Int.reduceNeg, Int.reduceAdd, Int.reduceSub, decide_true, decide_false, eq_self, not_true_eq_false, not_false_eq_true, ite_true, ite_false]
  have hx : Ext h ((((h.new (.ofL [.int .i64 ht, v] 0 false)).new (.ofL [.int .i64 op] 0 false)).new (.ofL [.int .i64 res] 0 false)).new (.ofL [.int .i64 0, .nilslice] 0 false)) := ((((Ext.refl h).new _).new _).new _).new _
  refine callK_intro (turned_ctr 36 _ (enterT op res) ht v fs (isList op && decide (0 ≤ res) && decide (res ≤ 1)) _ (hv.ext hx) fun hf => enter_turn op res _ _ _ ⟨old_lt (by simp only [next_new]; omega), [.int .i64 op], .inr ⟨0, false, ?_⟩, by simp, by simp⟩ ⟨old_lt (by simp only [next_new]; omega), [.int .i64 res], .inr ⟨0, false, ?_⟩, by simp, by simp⟩) ?_
  · simp only [↓wpA1, ↓wpA2, ↓wpA3, wpB1, wpB2, wpB3, wpB4, wpB5, wpB6, repeatV, RX.evs, spl, over, ones, Ex.ends, evR, oneOf, Option.isSome_some, Option.getD_some, if_true, if_false, true_and, and_true, List.getElem?_cons_zero, List.getElem?_cons_succ, List.length_cons, List.length_nil, List.drop_zero, List.drop_succ_cons, List.take_succ_cons, List.take_zero, List.cons_append, List.nil_append, Option.some.injEq, exists_eq_left', top, List.cons.injEq, ↓reduceIte, Nat.reduceEqDiff, Nat.reduceLeDiff, Nat.reduceAdd, Nat.reduceSub, Nat.reduceMul, reduceCtorEq, Nat.succ_ne_zero, imp_T, imp_F, List.getElem?_nil, Int.reduceEq, Int.reduceLT, Int.reduceLE, Int.reduceNeg, Int.reduceAdd, Int.reduceSub, decide_true, decide_false, eq_self, not_true_eq_false, not_false_eq_true, ite_true, ite_false]
  · simp only [↓wpA1, ↓wpA2, ↓wpA3, wpB1, wpB2, wpB3, wpB4, wpB5, wpB6, repeatV, RX.evs, spl, over, ones, Ex.ends, evR, oneOf, Option.isSome_some, Option.getD_some, if_true, if_false, true_and, and_true, List.getElem?_cons_zero, List.getElem?_cons_succ, List.length_cons, List.length_nil, List.drop_zero, List.drop_succ_cons, List.take_succ_cons, List.take_zero, List.cons_append, List.nil_append, Option.some.injEq, exists_eq_left', top, List.cons.injEq, ↓reduceIte, Nat.reduceEqDiff, Nat.reduceLeDiff, Nat.reduceAdd, Nat.reduceSub, Nat.reduceMul, reduceCtorEq, Nat.succ_ne_zero, imp_T, imp_F, List.getElem?_nil, Int.reduceEq, Int.reduceLT, Int.reduceLE, Int.reduceNeg, Int.reduceAdd, Int.reduceSub, decide_true, decide_false, eq_self, not_true_eq_false, not_false_eq_true, ite_true, ite_false]
  · rintro x h1 ⟨hr, hx1⟩
    obtain ⟨ht', v', e, rfl, one1, cl1, gd1⟩ := told_shape hr
    have g0 : h1.get (pa h.next) = .ofL [.int .i64 ht, v] 0 false := by
      rw [hx1.get _ (old_lt (by simp only [next_new]; omega))]
      simp only [↓wpA1, ↓wpA2, ↓wpA3, wpB1, wpB2, wpB3, wpB4, wpB5, wpB6, repeatV, RX.evs, spl, over, ones, Ex.ends, evR, oneOf, Option.isSome_some, Option.getD_some, if_true, if_false, true_and, and_true, List.getElem?_cons_zero, List.getElem?_cons_succ, List.length_cons, List.length_nil, List.drop_zero, List.drop_succ_cons, List.take_succ_cons, List.take_zero, List.cons_append, List.nil_append, Option.some.injEq, exists_eq_left', top, List.cons.injEq, ↓reduceIte, Nat.reduceEqDiff, Nat.reduceLeDiff, Nat.reduceAdd, Nat.reduceSub, Nat.reduceMul, reduceCtorEq, Nat.succ_ne_zero, imp_T, imp_F, List.getElem?_nil, Int.reduceEq, Int.reduceLT, Int.reduceLE, Int.reduceNeg, Int.reduceAdd, Int.reduceSub, decide_true, decide_false, eq_self, not_true_eq_false, not_false_eq_true, ite_true, ite_false]
    have g2 : h1.get (pa (h.next + 2)) = .ofL [.int .i64 res] 0 false := by
      rw [hx1.get _ (old_lt (by simp only [next_new]; omega))]
      simp only [↓wpA1, ↓wpA2, ↓wpA3, wpB1, wpB2, wpB3, wpB4, wpB5, wpB6, repeatV, RX.evs, spl, over, ones, Ex.ends, evR, oneOf, Option.isSome_some, Option.getD_some, if_true, if_false, true_and, and_true, List.getElem?_cons_zero, List.getElem?_cons_succ, List.length_cons, List.length_nil, List.drop_zero, List.drop_succ_cons, List.take_succ_cons, List.take_zero, List.cons_append, List.nil_append, Option.some.injEq, exists_eq_left', top, List.cons.injEq, ↓reduceIte, Nat.reduceEqDiff, Nat.reduceLeDiff, Nat.reduceAdd, Nat.reduceSub, Nat.reduceMul, reduceCtorEq, Nat.succ_ne_zero, imp_T, imp_F, List.getElem?_nil, Int.reduceEq, Int.reduceLT, Int.reduceLE, Int.reduceNeg, Int.reduceAdd, Int.reduceSub, decide_true, decide_false, eq_self, not_true_eq_false, not_false_eq_true, ite_true, ite_false]
    have g3 : h1.get (pa (h.next + 3)) = .ofL [.int .i64 0, .nilslice] 0 false := by
      rw [hx1.get _ (old_lt (by simp only [next_new]; omega))]
      simp only [↓wpA1, ↓wpA2, ↓wpA3, wpB1, wpB2, wpB3, wpB4, wpB5, wpB6, repeatV, RX.evs, spl, over, ones, Ex.ends, evR, oneOf, Option.isSome_some, Option.getD_some, if_true, if_false, true_and, and_true, List.getElem?_cons_zero, List.getElem?_cons_succ, List.length_cons, List.length_nil, List.drop_zero, List.drop_succ_cons, List.take_succ_cons, List.take_zero, List.cons_append, List.nil_append, Option.some.injEq, exists_eq_left', top, List.cons.injEq, ↓reduceIte, Nat.reduceEqDiff, Nat.reduceLeDiff, Nat.reduceAdd, Nat.reduceSub, Nat.reduceMul, reduceCtorEq, Nat.succ_ne_zero, imp_T, imp_F, List.getElem?_nil, Int.reduceEq, Int.reduceLT, Int.reduceLE, Int.reduceNeg, Int.reduceAdd, Int.reduceSub, decide_true, decide_false, eq_self, not_true_eq_false, not_false_eq_true, ite_true, ite_false]
    simp +contextual only [g0, g2, g3, one1, cl1, gd1, ↓wpA1, ↓wpA2, ↓wpA3, wpB1, wpB2, wpB3, wpB4, wpB5, wpB6, repeatV, RX.evs, spl, over, ones, Ex.ends, evR, oneOf, Option.isSome_some, Option.getD_some, if_true, if_false, true_and, and_true, List.getElem?_cons_zero, List.getElem?_cons_succ, List.length_cons, List.length_nil, List.drop_zero, List.drop_succ_cons, List.take_succ_cons, List.take_zero, List.cons_append, List.nil_append, Option.some.injEq, exists_eq_left', top, List.cons.injEq, ↓reduceIte, Nat.reduceEqDiff, Nat.reduceLeDiff, Nat.reduceAdd, Nat.reduceSub, Nat.reduceMul, reduceCtorEq, Nat.succ_ne_zero, imp_T, imp_F, List.getElem?_nil, Int.reduceEq, Int.reduceLT, Int.reduceLE, Int.reduceNeg, Int.reduceAdd, Int.reduceSub, decide_true, decide_false, eq_self, not_true_eq_false, not_false_eq_true, ite_true, ite_false]
    refine ⟨told_mono hr (by simp only [next_new]; omega) ((Mod.refl (fun b => b = pa (h.next + 3)) h1).set (fun _ => rfl) _) (fun b q => by rw [q, unPa_pa]; simp only [next_new]; omega), (hx.trans hx1).set (by omega) _⟩

theorem new_api (res : Int) (h : Heap) :
    Ctr Try.prog 24 [.int .i64 res] h fun x h' => (if res < 0 ∨ 1 < res then x = .tuple [zeroS, .int .i64 2] else ∃ v2, x = .tuple [.agg [.int .i64 0, v2], .int .i64 0] ∧ SlO h.next h' 4 v2 1 (encs [⟨0, 0, res, false⟩])) ∧ Ext h h' := by
  refine c24_ctr rfl (wpK_of ?_)
  unfold c24
  simp +contextual only [↓wpA1, ↓wpA2, ↓wpA3, wpB1, wpB2, wpB3, wpB4, wpB5, wpB6, repeatV, RX.evs, spl, over, ones, Ex.ends, evR, oneOf, Option.isSome_some, Option.getD_some, if_true, if_false, true_and, and_true, List.getElem?_cons_zero, List.getElem?_cons_succ, List.length_cons, List.length_nil, List.drop_zero, List.drop_succ_cons, List.take_succ_cons, List.take_zero, List.cons_append, List.nil_append, Option.some.injEq, exists_eq_left', top, List.cons.injEq, ↓reduceIte, Nat.reduceEqDiff, Nat.reduceLeDiff, Nat.reduceAdd, Nat.reduceSub, Nat.reduceMul, reduceCtorEq, Nat.succ_ne_zero, imp_T, imp_F, List.getElem?_nil, Int.reduceEq, Int.reduceLT, Int.reduceLE, Int.reduceNeg, Int.reduceAdd, Int.reduceSub, decide_true, decide_false, eq_self, not_true_eq_false, not_false_eq_true, ite_true, ite_false]
  refine ⟨fun hc => ⟨?_, ((Ext.refl h).new _).set (Nat.le_refl _) _⟩, fun hc => ⟨?_, (((Ext.refl h).new _).new _).set (Nat.le_refl _) _⟩⟩
  · rw [if_pos (by simpa using hc)]
    rfl
  · rw [if_neg (by simpa using hc)]
    refine ⟨_, rfl, rfl, rfl, by rw [unPa_pa]; omega, old_lt (by simp only [next_new, next_set]; omega), Nat.le_refl _, by unfold top; omega, [.int .i64 0, .int .i64 0, .int .i64 res, .bool false], 0, false, ?_, Nat.le_refl _, rfl⟩
    simp only [↓wpA1, ↓wpA2, ↓wpA3, wpB1, wpB2, wpB3, wpB4, wpB5, wpB6, repeatV, RX.evs, spl, over, ones, Ex.ends, evR, oneOf, Option.isSome_some, Option.getD_some, if_true, if_false, true_and, and_true, List.getElem?_cons_zero, List.getElem?_cons_succ, List.length_cons, List.length_nil, List.drop_zero, List.drop_succ_cons, List.take_succ_cons, List.take_zero, List.cons_append, List.nil_append, Option.some.injEq, exists_eq_left', top, List.cons.injEq, ↓reduceIte, Nat.reduceEqDiff, Nat.reduceLeDiff, Nat.reduceAdd, Nat.reduceSub, Nat.reduceMul, reduceCtorEq, Nat.succ_ne_zero, imp_T, imp_F, List.getElem?_nil, Int.reduceEq, Int.reduceLT, Int.reduceLE, Int.reduceNeg, Int.reduceAdd, Int.reduceSub, decide_true, decide_false, eq_self, not_true_eq_false, not_false_eq_true, ite_true, ite_false]

/-- what a label takes -/
def labelM (n ht : Int) (fs : List Fm) : Int × Int :=
  if checkB ht fs = false then (0, 2) else if n < 0 ∨ (fs.length : Int) ≤ n then (0, 6) else
    match fs[fs.length - 1 - n.toNat]? with
    | some f => if f.op = 3 then (0, 0) else (f.res, 0)
    | none => (0, 0)

theorem label_api (n ht : Int) (v : V) (fs : List Fm) (h : Heap) (hv : SlV h 4 v fs.length (encs fs)) :
    Ctr Try.prog 22 [.agg [.int .i64 ht, v], .int .i64 n] h fun x h' => x = .tuple [.int .i64 (labelM n ht fs).1, .int .i64 (labelM n ht fs).2] ∧ Ext h h' := by
  obtain ⟨one0, cl0, gd0⟩ := hv.one
  refine c22_ctr rfl (wpK_of ?_)
  unfold c22
  simp +contextual only [one0, cl0, gd0, ↓wpA1, ↓wpA2, ↓wpA3, wpB1, wpB2, wpB3, wpB4, wpB5, wpB6, repeatV, RX.evs, spl, over, ones, Ex.ends, evR, oneOf, Option.isSome_some, Option.getD_some, if_true, if_false, true_and, and_true, List.getElem?_cons_zero, List.getElem?_cons_succ, List.length_cons, List.length_nil, List.drop_zero, List.drop_succ_cons, List.take_succ_cons, List.take_zero, List.cons_append, List.nil_append, Option.some.injEq, exists_eq_left', top, List.cons.injEq, ↓reduceIte, Nat.reduceEqDiff, Nat.reduceLeDiff, Nat.reduceAdd, Nat.reduceSub, Nat.reduceMul, reduceCtorEq, Nat.succ_ne_zero, imp_T, imp_F, List.getElem?_nil, Int.reduceEq, Int.reduceLT, Int.reduceLE, Int.reduceNeg, Int.reduceAdd, Int.reduceSub, decide_true, decide_false, eq_self, not_true_eq_false, not_false_eq_true, ite_true, ite_false]
  have hx : Ext h (h.new (.ofL [.int .i64 ht, v] 0 false)) := (Ext.refl h).new _
  refine callK_intro (check_ctr ht v fs _ (hv.ext hx)) ?_
  rintro x h1 ⟨rfl, hx1⟩
  have g0 : h1.get (pa h.next) = .ofL [.int .i64 ht, v] 0 false := by
    rw [hx1.get _ (old_lt (by simp only [next_new]; omega))]
    simp only [↓wpA1, ↓wpA2, ↓wpA3, wpB1, wpB2, wpB3, wpB4, wpB5, wpB6, repeatV, RX.evs, spl, over, ones, Ex.ends, evR, oneOf, Option.isSome_some, Option.getD_some, if_true, if_false, true_and, and_true, List.getElem?_cons_zero, List.getElem?_cons_succ, List.length_cons, List.length_nil, List.drop_zero, List.drop_succ_cons, List.take_succ_cons, List.take_zero, List.cons_append, List.nil_append, Option.some.injEq, exists_eq_left', top, List.cons.injEq, ↓reduceIte, Nat.reduceEqDiff, Nat.reduceLeDiff, Nat.reduceAdd, Nat.reduceSub, Nat.reduceMul, reduceCtorEq, Nat.succ_ne_zero, imp_T, imp_F, List.getElem?_nil, Int.reduceEq, Int.reduceLT, Int.reduceLE, Int.reduceNeg, Int.reduceAdd, Int.reduceSub, decide_true, decide_false, eq_self, not_true_eq_false, not_false_eq_true, ite_true, ite_false]
  have hlen := hv.len
  cases hc : checkB ht fs with
  | false =>
    simp +contextual only [hc, g0, hlen, ↓wpA1, ↓wpA2, ↓wpA3, wpB1, wpB2, wpB3, wpB4, wpB5, wpB6, repeatV, RX.evs, spl, over, ones, Ex.ends, evR, oneOf, Option.isSome_some, Option.getD_some, if_true, if_false, true_and, and_true, List.getElem?_cons_zero, List.getElem?_cons_succ, List.length_cons, List.length_nil, List.drop_zero, List.drop_succ_cons, List.take_succ_cons, List.take_zero, List.cons_append, List.nil_append, Option.some.injEq, exists_eq_left', top, List.cons.injEq, ↓reduceIte, Nat.reduceEqDiff, Nat.reduceLeDiff, Nat.reduceAdd, Nat.reduceSub, Nat.reduceMul, reduceCtorEq, Nat.succ_ne_zero, imp_T, imp_F, List.getElem?_nil, Int.reduceEq, Int.reduceLT, Int.reduceLE, Int.reduceNeg, Int.reduceAdd, Int.reduceSub, decide_true, decide_false, eq_self, not_true_eq_false, not_false_eq_true, ite_true, ite_false]
    exact ⟨by simp [labelM, hc], hx.trans hx1⟩
  | true =>
    obtain ⟨l1, l2, l3, l4⟩ := check_len hc
    by_cases hb : n < 0 ∨ (fs.length : Int) ≤ n
    · have hb' : (decide (n < 0) || decide ((fs.length : Int) ≤ n)) = true := by simpa using hb
      simp +contextual only [hc, g0, hlen, hb', ↓wpA1, ↓wpA2, ↓wpA3, wpB1, wpB2, wpB3, wpB4, wpB5, wpB6, repeatV, RX.evs, spl, over, ones, Ex.ends, evR, oneOf, Option.isSome_some, Option.getD_some, if_true, if_false, true_and, and_true, List.getElem?_cons_zero, List.getElem?_cons_succ, List.length_cons, List.length_nil, List.drop_zero, List.drop_succ_cons, List.take_succ_cons, List.take_zero, List.cons_append, List.nil_append, Option.some.injEq, exists_eq_left', top, List.cons.injEq, ↓reduceIte, Nat.reduceEqDiff, Nat.reduceLeDiff, Nat.reduceAdd, Nat.reduceSub, Nat.reduceMul, reduceCtorEq, Nat.succ_ne_zero, imp_T, imp_F, List.getElem?_nil, Int.reduceEq, Int.reduceLT, Int.reduceLE, Int.reduceNeg, Int.reduceAdd, Int.reduceSub, decide_true, decide_false, eq_self, not_true_eq_false, not_false_eq_true, ite_true, ite_false]
      exact ⟨by simp [labelM, hc, hb], hx.trans hx1⟩
    · have hb' : (decide (n < 0) || decide ((fs.length : Int) ≤ n)) = false := by simpa using hb
      have w1 : IntKind.i64.wrap ((fs.length : Int) - 1) = ((fs.length - 1 : Nat) : Int) := by rw [wrap_i64 (by omega) (by omega)]; omega
      have w2 : IntKind.i64.wrap (((fs.length - 1 : Nat) : Int) - n) = ((fs.length - 1 - n.toNat : Nat) : Int) := by rw [wrap_i64 (by omega) (by omega)]; omega
      have hlt : fs.length - 1 - n.toNat < fs.length := by omega
      obtain ⟨b, off, hia, hat, _⟩ := (hv.ext (hx.trans hx1)).ia' (k := .i64) hlt
      have hld := hat.ldn (i := (fs.length - 1 - n.toNat) * 4) (n := 4) (by rw [encs_length]; omega)
      rw [encs_at fs _ hlt] at hld
      simp +contextual only [hc, g0, hlen, hb', w1, w2, hia, hld, Fm.enc, ↓wpA1, ↓wpA2, ↓wpA3, wpB1, wpB2, wpB3, wpB4, wpB5, wpB6, repeatV, RX.evs, spl, over, ones, Ex.ends, evR, oneOf, Option.isSome_some, Option.getD_some, if_true, if_false, true_and, and_true, List.getElem?_cons_zero, List.getElem?_cons_succ, List.length_cons, List.length_nil, List.drop_zero, List.drop_succ_cons, List.take_succ_cons, List.take_zero, List.cons_append, List.nil_append, Option.some.injEq, exists_eq_left', top, List.cons.injEq, ↓reduceIte, Nat.reduceEqDiff, Nat.reduceLeDiff, Nat.reduceAdd, Nat.reduceSub, Nat.reduceMul, reduceCtorEq, Nat.succ_ne_zero, imp_T, imp_F, List.getElem?_nil, Int.reduceEq, Int.reduceLT, Int.reduceLE, Int.reduceNeg, Int.reduceAdd, Int.reduceSub, decide_true, decide_false, eq_self, not_true_eq_false, not_false_eq_true, ite_true, ite_false]
      have hxf : Ext h _ := (((hx.trans hx1).new (.ofL [.int .i64 0, .int .i64 0, .int .i64 0, .bool false] 0 false)).set (i := h1.next) (by have := (hx.trans hx1).next; omega) (.ofL [.int .i64 (fs[fs.length - 1 - n.toNat]).op, .int .i64 (fs[fs.length - 1 - n.toNat]).base, .int .i64 (fs[fs.length - 1 - n.toNat]).res, .bool (fs[fs.length - 1 - n.toNat]).dead] 0 false))
      refine ⟨fun hop => ⟨?_, hxf⟩, fun hop => ⟨?_, hxf⟩⟩
      · simp [labelM, hc, hb, List.getElem?_eq_getElem hlt]
        simp at hop
        simp [hop]
      · simp [labelM, hc, hb, List.getElem?_eq_getElem hlt]
        simp at hop
        simp [hop]
end Go.Proofs.Ytkjifhoiiciblaa

namespace Go.Proofs.Ytkjifhoiiciblaa
open Go Am
set_option linter.unusedSimpArgs false
set_option linter.unusedVariables false

theorem lists_pure (op : Int) (h : Heap) : CallsV Try.prog 37 [.int .i64 op] h (.bool (isList op)) h := by
  have : Ctr Try.prog 37 [.int .i64 op] h fun v h' => v = .bool (isList op) ∧ h' = h := by
    refine c37_ctr rfl (wpK_of ?_)
    unfold c37
    simp +contextual only [↓wpA1, ↓wpA2, ↓wpA3, wpB1, wpB2, wpB3, wpB4, wpB5, wpB6, repeatV, RX.evs, spl, over, ones, Ex.ends, evR, oneOf, Option.isSome_some, Option.getD_some, if_true, if_false, true_and, and_true, List.getElem?_cons_zero, List.getElem?_cons_succ, List.length_cons, List.length_nil, List.drop_zero, List.drop_succ_cons, List.take_succ_cons, List.take_zero, List.cons_append, List.nil_append, Option.some.injEq, exists_eq_left', top, List.cons.injEq, ↓reduceIte, Nat.reduceEqDiff, Nat.reduceLeDiff, Nat.reduceAdd, Nat.reduceSub, Nat.reduceMul, reduceCtorEq, Nat.succ_ne_zero, imp_T, imp_F, List.getElem?_nil, Int.reduceEq, Int.reduceLT, Int.reduceLE, Int.reduceNeg, Int.reduceAdd, Int.reduceSub, decide_true, decide_false, eq_self, not_true_eq_false, not_false_eq_true, ite_true, ite_false]
    rfl
  obtain ⟨v, h', q, rfl, rfl⟩ := this
  exact q

def okR (height : Int) : Nat → Int → List Fm → Bool
  | _, _, [] => true
  | i, base, f :: fs => !((decide ((0 : Int) < (i : Int)) && !isList f.op) || decide (f.base < base) || decide (height < f.base) || decide (f.res < 0) || decide (1 < f.res)) && okR height (i + 1) f.base fs
def hd0 (fs : List Fm) : Fm := (fs[0]?).getD ⟨0, 0, 0, false⟩
def refB (height : Int) (fs : List Fm) : Bool :=
  !(decide (height < 0) || decide (1073741824 < height) || decide ((fs.length : Int) = 0) || decide (1000 < (fs.length : Int)) || !decide ((hd0 fs).op = 0) || !decide ((hd0 fs).base = 0)) && okR height 0 0 fs

theorem okR_eq (ht : Int) : ∀ (fs : List Fm) (i : Nat) (base : Int), 1 ≤ i → okR ht i base fs = okFrom ht i base fs
  | [], _, _, _ => rfl
  | f :: fs, i, base, h => by
    simp only [okR, okFrom]
    rw [okR_eq ht fs (i + 1) f.base (by omega)]
    have h1 : decide (i = 0) = false := decide_eq_false (by omega)
    have h2 : decide ((0 : Int) < (i : Int)) = true := decide_eq_true (by omega)
    rw [h1, h2]
    rfl

theorem ref_eq (ht : Int) (fs : List Fm) : refB ht fs = checkB ht fs := by
  cases fs with
  | nil => simp [refB, checkB]
  | cons f fs =>
    unfold refB checkB
    simp only [okR, okFrom]
    rw [okR_eq ht fs (0 + 1) f.base (Nat.le_refl _)]
    have e0 : hd0 (f :: fs) = f := rfl
    rw [e0]
    have l0 : decide (((f :: fs).length : Int) = 0) = false := decide_eq_false (by simp; omega)
    have l1 : decide (((f :: fs).length : Int) < 1) = false := decide_eq_false (by simp; omega)
    have l2 : decide ((0 : Int) < ((0 : Nat) : Int)) = false := rfl
    rw [l0, l1, l2]
    generalize decide (1000 < ((f :: fs).length : Int)) = b1
    generalize okFrom ht (0 + 1) f.base fs = b2
    generalize decide (ht < 0) = b3
    generalize decide (1073741824 < ht) = b4
    generalize decide (ht < f.base) = b5
    generalize decide (f.res < 0) = b6
    generalize decide (1 < f.res) = b7
    generalize isList f.op = b8
    by_cases hb : f.base = 0
    · rw [hb]
      cases decide (f.op = 0) <;> cases b1 <;> cases b2 <;> cases b3 <;> cases b4 <;> cases b5 <;> cases b6 <;> cases b7 <;> cases b8 <;> rfl
    · rw [decide_eq_false hb]
      generalize decide (f.base < 0) = b9
      cases decide (f.op = 0) <;> cases b1 <;> cases b2 <;> cases b3 <;> cases b4 <;> cases b5 <;> cases b6 <;> cases b7 <;> cases b8 <;> cases b9 <;> rfl

theorem okR_step (ht : Int) (i : Nat) (base : Int) (fs : List Fm) (hi : i < fs.length) : okR ht i base (fs.drop i) =
    (!((decide ((0 : Int) < (i : Int)) && !isList fs[i].op) || decide (fs[i].base < base) || decide (ht < fs[i].base) || decide (fs[i].res < 0) || decide (1 < fs[i].res)) && okR ht (i + 1) fs[i].base (fs.drop (i + 1))) := by
  rw [List.drop_eq_getElem_cons hi]
  rfl

theorem refcheck_ctr (ht : Int) (v : V) (fs : List Fm) (h : Heap) (hv : SlV h 4 v fs.length (encs fs)) :
    Ctr Try.prog 26 [.agg [.int .i64 ht, v]] h fun x h' => x = .int .i64 (if checkB ht fs = true then 0 else 2) ∧ Ext h h' := by
  obtain ⟨one0, cl0, gd0⟩ := hv.one
  have hl := hv.len
  have hx : Ext h (h.new (.ofL [.int .i64 ht, v] 0 false)) := (Ext.refl h).new _
  rw [← ref_eq]
  refine c26_ctr rfl (wpK_of ?_)
  unfold c26
  -- the head's frame, where there is one
  have hd : ∃ (b : Pa) (off : Nat), (1 ≤ fs.length → iaV 4 v (.int .i64 0) = some (.ptr b off) ∧ ld1B ((h.new (.ofL [.int .i64 ht, v] 0 false)).get b) off = some (.int .i64 (hd0 fs).op) ∧ ld1B ((h.new (.ofL [.int .i64 ht, v] 0 false)).get b) (off + 1) = some (.int .i64 (hd0 fs).base)) := by
    by_cases hl : 1 ≤ fs.length
    · obtain ⟨b, off, hia, hat, _⟩ := (hv.ext hx).ia' (k := .i64) (i := 0) (by omega)
      refine ⟨b, off, fun _ => ⟨by simpa using hia, ?_, ?_⟩⟩
      · have := hat.cell (i := 0) (j := 0) (n := 4) (by rw [← Nat.zero_mul 4, encs_at fs 0 (by omega)]) (by rw [encs_length]; omega) (by omega)
        simpa [Fm.enc, hd0, List.getElem?_eq_getElem (show 0 < fs.length from hl)] using this
      · have := hat.cell (i := 0) (j := 1) (n := 4) (by rw [← Nat.zero_mul 4, encs_at fs 0 (by omega)]) (by rw [encs_length]; omega) (by omega)
        simpa [Fm.enc, hd0, List.getElem?_eq_getElem (show 0 < fs.length from hl)] using this
    · exact ⟨.z, 0, fun q => absurd q hl⟩
  obtain ⟨b0, off0, hd⟩ := hd
  by_cases hlen : 1 ≤ fs.length
  case neg =>
    have hz : fs.length = 0 := by omega
    rw [hz] at hl
    simp +contextual only [hl, Int.natCast_zero, Int.ofNat_zero, one0, cl0, gd0, ↓wpA1, ↓wpA2, ↓wpA3, wpB1, wpB2, wpB3, wpB4, wpB5, wpB6, repeatV, RX.evs, spl, over, ones, Ex.ends, evR, oneOf, Option.isSome_some, Option.getD_some, if_true, if_false, true_and, and_true, List.getElem?_cons_zero, List.getElem?_cons_succ, List.length_cons, List.length_nil, List.drop_zero, List.drop_succ_cons, List.take_succ_cons, List.take_zero, List.cons_append, List.nil_append, Option.some.injEq, exists_eq_left', top, List.cons.injEq, ↓reduceIte, Nat.reduceEqDiff, Nat.reduceLeDiff, Nat.reduceAdd, Nat.reduceSub, Nat.reduceMul, reduceCtorEq, Nat.succ_ne_zero, imp_T, imp_F, List.getElem?_nil, Int.reduceEq, Int.reduceLT, Int.reduceLE, Int.reduceNeg, Int.reduceAdd, Int.reduceSub, decide_true, decide_false, eq_self, not_true_eq_false, not_false_eq_true, ite_true, ite_false]
    refine ⟨?_, hx⟩
    have : refB ht fs = false := by simp [refB, hz]
    rw [this]
    rfl
  case pos =>
    obtain ⟨hia0, d0, d1⟩ := hd hlen
    have hnz : ((fs.length : Int) = 0) = False := eq_false (by omega)
    rw [get_new] at d0 d1
    simp +contextual only [hl, hia0, d0, d1, hnz, one0, cl0, gd0, ↓wpA1, ↓wpA2, ↓wpA3, wpB1, wpB2, wpB3, wpB4, wpB5, wpB6, repeatV, RX.evs, spl, over, ones, Ex.ends, evR, oneOf, Option.isSome_some, Option.getD_some, if_true, if_false, true_and, and_true, List.getElem?_cons_zero, List.getElem?_cons_succ, List.length_cons, List.length_nil, List.drop_zero, List.drop_succ_cons, List.take_succ_cons, List.take_zero, List.cons_append, List.nil_append, Option.some.injEq, exists_eq_left', top, List.cons.injEq, ↓reduceIte, Nat.reduceEqDiff, Nat.reduceLeDiff, Nat.reduceAdd, Nat.reduceSub, Nat.reduceMul, reduceCtorEq, Nat.succ_ne_zero, imp_T, imp_F, List.getElem?_nil, Int.reduceEq, Int.reduceLT, Int.reduceLE, Int.reduceNeg, Int.reduceAdd, Int.reduceSub, decide_true, decide_false, eq_self, not_true_eq_false, not_false_eq_true, ite_true, ite_false]
    have hz : decide ((fs.length : Int) = 0) = false := decide_eq_false (by omega)
    refine ⟨fun hb => ⟨?_, hx⟩, fun hb => ?_⟩
    · have : refB ht fs = false := by
        unfold refB
        rw [hz, Bool.or_false, hb]
        rfl
      rw [this]
      rfl
    have hlt3 : fs.length ≤ 1000 := by simp at hb; omega
    have href : refB ht fs = okR ht 0 0 fs := by
      unfold refB
      rw [hz, Bool.or_false, hb]
      rfl
    rw [href]
    clear href hz d0 d1 hia0 hd hnz
    refine loopK_intro (fun r h' => ∃ (i : Nat) (base : Int), i ≤ fs.length ∧ r 4 = .int .i64 i ∧ r 3 = .int .i64 base ∧ r 1 = .ptr (pa h.next) 0 ∧
      h'.get (pa h.next) = .ofL [.int .i64 ht, v] 0 false ∧ Ext h h' ∧ h.next < h'.next ∧ okR ht 0 0 fs = okR ht i base (fs.drop i)) (fun r _ => fs.length - (r 4).toN) ?_ ?_
    · refine ⟨0, 0, Nat.zero_le _, ?_⟩
      simp only [↓wpA1, ↓wpA2, ↓wpA3, wpB1, wpB2, wpB3, wpB4, wpB5, wpB6, repeatV, RX.evs, spl, over, ones, Ex.ends, evR, oneOf, Option.isSome_some, Option.getD_some, if_true, if_false, true_and, and_true, List.getElem?_cons_zero, List.getElem?_cons_succ, List.length_cons, List.length_nil, List.drop_zero, List.drop_succ_cons, List.take_succ_cons, List.take_zero, List.cons_append, List.nil_append, Option.some.injEq, exists_eq_left', top, List.cons.injEq, ↓reduceIte, Nat.reduceEqDiff, Nat.reduceLeDiff, Nat.reduceAdd, Nat.reduceSub, Nat.reduceMul, reduceCtorEq, Nat.succ_ne_zero, imp_T, imp_F, List.getElem?_nil, Int.reduceEq, Int.reduceLT, Int.reduceLE, Int.reduceNeg, Int.reduceAdd, Int.reduceSub, decide_true, decide_false, eq_self, not_true_eq_false, not_false_eq_true, ite_true, ite_false]
      exact ⟨rfl, hx, Nat.lt_succ_self _⟩
    · rintro r h' ⟨i, base, hi, e4, e3, e1, hg, hx, hn, hok⟩
      have hnp : (pa h'.next = pa h.next) = False := by rw [pa_eq]; exact eq_false (by omega)
      by_cases hlt : i < fs.length
      · obtain ⟨b, off, hia, hat⟩ := (hv.ext hx).ia (k := .i64) hlt
        have hld := hat.ldn (i := i * 4) (n := 4) (by rw [encs_length]; omega)
        rw [encs_at fs i hlt] at hld
        have hil : ((i : Int) < (fs.length : Int)) := by omega
        rw [okR_step ht i base fs hlt] at hok
        unfold c26l1
        simp +contextual only [e4, e3, e1, hl, hia, hld, hg, hnp, hil, Fm.enc, decide_true, if_true, ↓wpA1, ↓wpA2, ↓wpA3, wpB1, wpB2, wpB3, wpB4, wpB5, wpB6, repeatV, RX.evs, spl, over, ones, Ex.ends, evR, oneOf, Option.isSome_some, Option.getD_some, if_true, if_false, true_and, and_true, List.getElem?_cons_zero, List.getElem?_cons_succ, List.length_cons, List.length_nil, List.drop_zero, List.drop_succ_cons, List.take_succ_cons, List.take_zero, List.cons_append, List.nil_append, Option.some.injEq, exists_eq_left', top, List.cons.injEq, ↓reduceIte, Nat.reduceEqDiff, Nat.reduceLeDiff, Nat.reduceAdd, Nat.reduceSub, Nat.reduceMul, reduceCtorEq, Nat.succ_ne_zero, imp_T, imp_F, List.getElem?_nil, Int.reduceEq, Int.reduceLT, Int.reduceLE, Int.reduceNeg, Int.reduceAdd, Int.reduceSub, decide_true, decide_false, eq_self, not_true_eq_false, not_false_eq_true, ite_true, ite_false]
        refine gateK_callT0 (.bool (isList fs[i].op)) (fun hc => ?_) ?_
        · simp only [hc, ↓wpA1, ↓wpA2, ↓wpA3, wpB1, wpB2, wpB3, wpB4, wpB5, wpB6, repeatV, RX.evs, spl, over, ones, Ex.ends, evR, oneOf, Option.isSome_some, Option.getD_some, if_true, if_false, true_and, and_true, List.getElem?_cons_zero, List.getElem?_cons_succ, List.length_cons, List.length_nil, List.drop_zero, List.drop_succ_cons, List.take_succ_cons, List.take_zero, List.cons_append, List.nil_append, Option.some.injEq, exists_eq_left', top, List.cons.injEq, ↓reduceIte, Nat.reduceEqDiff, Nat.reduceLeDiff, Nat.reduceAdd, Nat.reduceSub, Nat.reduceMul, reduceCtorEq, Nat.succ_ne_zero, imp_T, imp_F, List.getElem?_nil, Int.reduceEq, Int.reduceLT, Int.reduceLE, Int.reduceNeg, Int.reduceAdd, Int.reduceSub, decide_true, decide_false, eq_self, not_true_eq_false, not_false_eq_true, ite_true, ite_false]
          exact lists_pure _ _
        · have hw : IntKind.i64.wrap ((i : Int) + 1) = ((i + 1 : Nat) : Int) := by rw [wrap_i64 (by omega) (by omega)]; rfl
          simp +contextual only [e4, e3, e1, hl, hia, hld, hg, hnp, hil, Fm.enc, decide_true, if_true, ↓wpA1, ↓wpA2, ↓wpA3, wpB1, wpB2, wpB3, wpB4, wpB5, wpB6, repeatV, RX.evs, spl, over, ones, Ex.ends, evR, oneOf, Option.isSome_some, Option.getD_some, if_true, if_false, true_and, and_true, List.getElem?_cons_zero, List.getElem?_cons_succ, List.length_cons, List.length_nil, List.drop_zero, List.drop_succ_cons, List.take_succ_cons, List.take_zero, List.cons_append, List.nil_append, Option.some.injEq, exists_eq_left', top, List.cons.injEq, ↓reduceIte, Nat.reduceEqDiff, Nat.reduceLeDiff, Nat.reduceAdd, Nat.reduceSub, Nat.reduceMul, reduceCtorEq, Nat.succ_ne_zero, imp_T, imp_F, List.getElem?_nil, Int.reduceEq, Int.reduceLT, Int.reduceLE, Int.reduceNeg, Int.reduceAdd, Int.reduceSub, decide_true, decide_false, eq_self, not_true_eq_false, not_false_eq_true, ite_true, ite_false]
          refine ⟨fun hc => ⟨?_, ?_⟩, fun hc => ⟨⟨i + 1, fs[i].base, by omega, by rw [hw], rfl, ?_, by omega, ?_⟩, ?_⟩⟩
          · rw [hc] at hok
            rw [hok]
            rfl
          · exact (hx.new _).set (by have := hx.next; omega) _
          · exact (hx.new _).set (by have := hx.next; omega) _
          · rw [hc] at hok
            simpa using hok
          · rw [hw]; omega
      · have hil : ¬ ((i : Int) < (fs.length : Int)) := by omega
        unfold c26l1
        simp +contextual only [e4, e3, e1, hg, hl, hil, decide_false, ↓wpA1, ↓wpA2, ↓wpA3, wpB1, wpB2, wpB3, wpB4, wpB5, wpB6, repeatV, RX.evs, spl, over, ones, Ex.ends, evR, oneOf, Option.isSome_some, Option.getD_some, if_true, if_false, true_and, and_true, List.getElem?_cons_zero, List.getElem?_cons_succ, List.length_cons, List.length_nil, List.drop_zero, List.drop_succ_cons, List.take_succ_cons, List.take_zero, List.cons_append, List.nil_append, Option.some.injEq, exists_eq_left', top, List.cons.injEq, ↓reduceIte, Nat.reduceEqDiff, Nat.reduceLeDiff, Nat.reduceAdd, Nat.reduceSub, Nat.reduceMul, reduceCtorEq, Nat.succ_ne_zero, imp_T, imp_F, List.getElem?_nil, Int.reduceEq, Int.reduceLT, Int.reduceLE, Int.reduceNeg, Int.reduceAdd, Int.reduceSub, decide_true, decide_false, eq_self, not_true_eq_false, not_false_eq_true, ite_true, ite_false]
        refine ⟨?_, hx⟩
        rw [List.drop_eq_nil_of_le (by omega)] at hok
        rw [hok]
        rfl
end Go.Proofs.Ytkjifhoiiciblaa

namespace Go.Proofs.Ytkjifhoiiciblaa
open Go Am
set_option linter.unusedSimpArgs false
set_option linter.unusedVariables false

theorem encs_ones (fs : List Fm) : ones (encs fs) = true := by
  unfold encs
  induction fs with
  | nil => rfl
  | cons f fs ih => rw [List.flatMap_cons]; exact ones_append rfl ih

theorem ref_with (ht H : Int) (v0 v : V) (fs : List Fm) (h : Heap) (one0 : v0.one = true) (cl0 : v0.cells = [v0]) (gd0 : v0.good = true) (hv : SlV h 4 v fs.length (encs fs)) (hn : fs.length ≤ 100000) :
    Ctr Try.prog 33 [.agg [.int .i64 ht, v0], .int .i64 H, v] h fun x h' => (∃ v2, x = .agg [.int .i64 H, v2] ∧ SlO h.next h' 4 v2 fs.length (encs fs)) ∧ Ext h h' := by
  refine c33_ctr rfl (wpK_of ?_)
  unfold c33
  obtain ⟨one1, cl1, gd1⟩ := hv.one
  simp +contextual only [one0, cl0, gd0, one1, cl1, gd1, ↓wpA1, ↓wpA2, ↓wpA3, wpB1, wpB2, wpB3, wpB4, wpB5, wpB6, repeatV, RX.evs, spl, over, ones, Ex.ends, evR, oneOf, Option.isSome_some, Option.getD_some, if_true, if_false, true_and, and_true, List.getElem?_cons_zero, List.getElem?_cons_succ, List.length_cons, List.length_nil, List.drop_zero, List.drop_succ_cons, List.take_succ_cons, List.take_zero, List.cons_append, List.nil_append, Option.some.injEq, exists_eq_left', top, List.cons.injEq, ↓reduceIte, Nat.reduceEqDiff, Nat.reduceLeDiff, Nat.reduceAdd, Nat.reduceSub, Nat.reduceMul, reduceCtorEq, Nat.succ_ne_zero, imp_T, imp_F, List.getElem?_nil, Int.reduceEq, Int.reduceLT, Int.reduceLE, Int.reduceNeg, Int.reduceAdd, Int.reduceSub, decide_true, decide_false, eq_self, not_true_eq_false, not_false_eq_true, ite_true, ite_false]
  generalize eh : ((h.new (Blk.ofL [V.int IntKind.i64 ht, v0] 0 false)).new (Blk.ofL [V.int IntKind.i64 0, V.nilslice] 0 false)) = h2
  have hx2 : Ext h h2 := eh ▸ ((Ext.refl h).new _).new _
  have n2 : h2.next = h.next + 2 := by rw [← eh]; rfl
  have hown : SlO (h.next + 2) (h2.new (.ofL [] 0 false)) 4 (.slice (pa h2.next) 0 0 0) 0 [] :=
    ⟨rfl, rfl, by rw [unPa_pa]; omega, old_self, Nat.le_refl _, Nat.zero_le _, [], 0, false, get_new_self _, Nat.le_refl _, rfl⟩
  obtain ⟨x, h', q1, q2, q3, q4⟩ := app_own (B := h.next + 2) (by omega) hown (hv.ext (hx2.new _)) (by rw [next_new]; omega) (by unfold top; omega) (encs_ones fs)
  have hx3 : Ext h h' := (hx2.new _).mod_new q3 fun b hb => by
    rw [show b = pa h2.next from hb, unPa_pa]; omega
  have g1 : h'.get (pa (h.next + 1)) = .ofL [.int .i64 0, .nilslice] 0 false := by
    rw [q3.get _ (old_lt (by rw [next_new]; omega)) (fun q => by have := congrArg unPa (show pa (h.next + 1) = pa h2.next from q); rw [unPa_pa, unPa_pa] at this; omega), get_new, ← eh]
    simp only [↓wpA1, ↓wpA2, ↓wpA3, wpB1, wpB2, wpB3, wpB4, wpB5, wpB6, repeatV, RX.evs, spl, over, ones, Ex.ends, evR, oneOf, Option.isSome_some, Option.getD_some, if_true, if_false, true_and, and_true, List.getElem?_cons_zero, List.getElem?_cons_succ, List.length_cons, List.length_nil, List.drop_zero, List.drop_succ_cons, List.take_succ_cons, List.take_zero, List.cons_append, List.nil_append, Option.some.injEq, exists_eq_left', top, List.cons.injEq, ↓reduceIte, Nat.reduceEqDiff, Nat.reduceLeDiff, Nat.reduceAdd, Nat.reduceSub, Nat.reduceMul, reduceCtorEq, Nat.succ_ne_zero, imp_T, imp_F, List.getElem?_nil, Int.reduceEq, Int.reduceLT, Int.reduceLE, Int.reduceNeg, Int.reduceAdd, Int.reduceSub, decide_true, decide_false, eq_self, not_true_eq_false, not_false_eq_true, ite_true, ite_false]
  obtain ⟨one2, cl2, gd2⟩ := q2.v.one
  have nn : (pa (h2.next) = pa (h.next + 1)) = False := by rw [pa_eq]; exact eq_false (by omega)
  rw [n2] at q1
  simp +contextual only [n2, q1, g1, one2, cl2, gd2, ↓wpA1, ↓wpA2, ↓wpA3, wpB1, wpB2, wpB3, wpB4, wpB5, wpB6, repeatV, RX.evs, spl, over, ones, Ex.ends, evR, oneOf, Option.isSome_some, Option.getD_some, if_true, if_false, true_and, and_true, List.getElem?_cons_zero, List.getElem?_cons_succ, List.length_cons, List.length_nil, List.drop_zero, List.drop_succ_cons, List.take_succ_cons, List.take_zero, List.cons_append, List.nil_append, Option.some.injEq, exists_eq_left', top, List.cons.injEq, ↓reduceIte, Nat.reduceEqDiff, Nat.reduceLeDiff, Nat.reduceAdd, Nat.reduceSub, Nat.reduceMul, reduceCtorEq, Nat.succ_ne_zero, imp_T, imp_F, List.getElem?_nil, Int.reduceEq, Int.reduceLT, Int.reduceLE, Int.reduceNeg, Int.reduceAdd, Int.reduceSub, decide_true, decide_false, eq_self, not_true_eq_false, not_false_eq_true, ite_true, ite_false]
  refine ⟨⟨x, rfl, ?_⟩, hx3.set (by omega) _⟩
  have q2' : SlO h.next h' 4 x fs.length (encs fs) := by simpa using q2.mono (B' := h.next) (by omega)
  refine q2'.mod ((Mod.refl (fun b => b = pa (h.next + 1)) h').set (fun _ => rfl) _) fun b hb q => ?_
  have := q2.base hb
  rw [q, unPa_pa] at this
  omega

theorem own_ctr (ht : Int) (v : V) (fs : List Fm) (h : Heap) (hv : SlV h 4 v fs.length (encs fs)) (hn : fs.length ≤ 100000) :
    Ctr Try.prog 12 [.agg [.int .i64 ht, v]] h fun x h' => (∃ v2, x = .agg [.int .i64 ht, v2] ∧ SlO h.next h' 4 v2 fs.length (encs fs)) ∧ Ext h h' := by
  obtain ⟨one0, cl0, gd0⟩ := hv.one
  refine c12_ctr rfl (wpK_of ?_)
  unfold c12
  have hown : SlO (h.next + 2) (((h.new (Blk.ofL [V.int IntKind.i64 ht, v] 0 false)).new (Blk.ofL [V.int IntKind.i64 0, V.nilslice] 0 false)).new (.ofL [] 0 false)) 4 (.slice (pa (h.next + 2)) 0 0 0) 0 [] :=
    ⟨rfl, rfl, by rw [unPa_pa]; omega, old_self, Nat.le_refl _, Nat.zero_le _, [], 0, false, get_new_self _, Nat.le_refl _, rfl⟩
  have hx2 : Ext h ((h.new (Blk.ofL [V.int IntKind.i64 ht, v] 0 false)).new (Blk.ofL [V.int IntKind.i64 0, V.nilslice] 0 false)) := ((Ext.refl h).new _).new _
  obtain ⟨x, h', q1, q2, q3, q4⟩ := app_own (B := h.next + 2) (by omega) hown (hv.ext (hx2.new _)) (by simp only [next_new]; omega) (by unfold top; omega) (encs_ones fs)
  have hx3 : Ext h h' := (hx2.new _).mod_new q3 fun b hb => by
    rw [show b = pa (h.next + 2) from hb, unPa_pa]; omega
  have g1 : h'.get (pa (h.next + 1)) = .ofL [.int .i64 0, .nilslice] 0 false := by
    rw [q3.get _ (old_lt (by simp only [next_new]; omega)) (fun q => by have := congrArg unPa (show pa (h.next + 1) = pa (h.next + 2) from q); rw [unPa_pa, unPa_pa] at this; omega)]
    simp only [↓wpA1, ↓wpA2, ↓wpA3, wpB1, wpB2, wpB3, wpB4, wpB5, wpB6, repeatV, RX.evs, spl, over, ones, Ex.ends, evR, oneOf, Option.isSome_some, Option.getD_some, if_true, if_false, true_and, and_true, List.getElem?_cons_zero, List.getElem?_cons_succ, List.length_cons, List.length_nil, List.drop_zero, List.drop_succ_cons, List.take_succ_cons, List.take_zero, List.cons_append, List.nil_append, Option.some.injEq, exists_eq_left', top, List.cons.injEq, ↓reduceIte, Nat.reduceEqDiff, Nat.reduceLeDiff, Nat.reduceAdd, Nat.reduceSub, Nat.reduceMul, reduceCtorEq, Nat.succ_ne_zero, imp_T, imp_F, List.getElem?_nil, Int.reduceEq, Int.reduceLT, Int.reduceLE, Int.reduceNeg, Int.reduceAdd, Int.reduceSub, decide_true, decide_false, eq_self, not_true_eq_false, not_false_eq_true, ite_true, ite_false]
  have g0 : h'.get (pa h.next) = .ofL [.int .i64 ht, v] 0 false := by
    rw [q3.get _ (old_lt (by simp only [next_new]; omega)) (fun q => by have := congrArg unPa (show pa h.next = pa (h.next + 2) from q); rw [unPa_pa, unPa_pa] at this; omega)]
    simp only [↓wpA1, ↓wpA2, ↓wpA3, wpB1, wpB2, wpB3, wpB4, wpB5, wpB6, repeatV, RX.evs, spl, over, ones, Ex.ends, evR, oneOf, Option.isSome_some, Option.getD_some, if_true, if_false, true_and, and_true, List.getElem?_cons_zero, List.getElem?_cons_succ, List.length_cons, List.length_nil, List.drop_zero, List.drop_succ_cons, List.take_succ_cons, List.take_zero, List.cons_append, List.nil_append, Option.some.injEq, exists_eq_left', top, List.cons.injEq, ↓reduceIte, Nat.reduceEqDiff, Nat.reduceLeDiff, Nat.reduceAdd, Nat.reduceSub, Nat.reduceMul, reduceCtorEq, Nat.succ_ne_zero, imp_T, imp_F, List.getElem?_nil, Int.reduceEq, Int.reduceLT, Int.reduceLE, Int.reduceNeg, Int.reduceAdd, Int.reduceSub, decide_true, decide_false, eq_self, not_true_eq_false, not_false_eq_true, ite_true, ite_false]
  obtain ⟨one2, cl2, gd2⟩ := q2.v.one
  simp +contextual only [one0, cl0, gd0, q1, g0, g1, one2, cl2, gd2, ↓wpA1, ↓wpA2, ↓wpA3, wpB1, wpB2, wpB3, wpB4, wpB5, wpB6, repeatV, RX.evs, spl, over, ones, Ex.ends, evR, oneOf, Option.isSome_some, Option.getD_some, if_true, if_false, true_and, and_true, List.getElem?_cons_zero, List.getElem?_cons_succ, List.length_cons, List.length_nil, List.drop_zero, List.drop_succ_cons, List.take_succ_cons, List.take_zero, List.cons_append, List.nil_append, Option.some.injEq, exists_eq_left', top, List.cons.injEq, ↓reduceIte, Nat.reduceEqDiff, Nat.reduceLeDiff, Nat.reduceAdd, Nat.reduceSub, Nat.reduceMul, reduceCtorEq, Nat.succ_ne_zero, imp_T, imp_F, List.getElem?_nil, Int.reduceEq, Int.reduceLT, Int.reduceLE, Int.reduceNeg, Int.reduceAdd, Int.reduceSub, decide_true, decide_false, eq_self, not_true_eq_false, not_false_eq_true, ite_true, ite_false]
  refine ⟨⟨x, rfl, ?_⟩, hx3.set (by omega) _⟩
  have q2' : SlO h.next h' 4 x fs.length (encs fs) := by simpa using q2.mono (B' := h.next) (by omega)
  refine q2'.mod ((Mod.refl (fun b => b = pa (h.next + 1)) h').set (fun _ => rfl) _) fun b hb q => ?_
  have := q2.base hb
  rw [q, unPa_pa] at this
  omega

theorem ref_last (ht : Int) (v : V) (fs : List Fm) (h : Heap) (hv : SlV h 4 v fs.length (encs fs)) (hl : 1 ≤ fs.length) (hn : fs.length ≤ 100000) :
    Ctr Try.prog 34 [.agg [.int .i64 ht, v]] h fun x h' => x = .agg (lastF fs).enc ∧ Ext h h' := by
  obtain ⟨one0, cl0, gd0⟩ := hv.one
  have hlen := hv.len
  have hx : Ext h ((h.new (Blk.ofL [V.int IntKind.i64 ht, v] 0 false)).new (.ofL [.int .i64 0, .int .i64 0, .int .i64 0, .bool false] 0 false)) := ((Ext.refl h).new _).new _
  have hidx : IntKind.i64.wrap ((fs.length : Int) - 1) = ((fs.length - 1 : Nat) : Int) := by rw [wrap_i64 (by omega) (by omega)]; omega
  obtain ⟨b, off, hia, hat, _⟩ := (hv.ext hx).ia' (k := .i64) (i := fs.length - 1) (by omega)
  have hld := hat.ldn (i := (fs.length - 1) * 4) (n := 4) (by rw [encs_length]; omega)
  rw [encs_at fs _ (by omega)] at hld
  rw [get_new, get_new] at hld
  rw [next_new] at hld
  rw [← lastF_eq hl] at hld
  refine c34_ctr rfl (wpK_of ?_)
  unfold c34
  simp +contextual only [one0, cl0, gd0, hlen, hidx, hia, hld, Fm.enc, ↓wpA1, ↓wpA2, ↓wpA3, wpB1, wpB2, wpB3, wpB4, wpB5, wpB6, repeatV, RX.evs, spl, over, ones, Ex.ends, evR, oneOf, Option.isSome_some, Option.getD_some, if_true, if_false, true_and, and_true, List.getElem?_cons_zero, List.getElem?_cons_succ, List.length_cons, List.length_nil, List.drop_zero, List.drop_succ_cons, List.take_succ_cons, List.take_zero, List.cons_append, List.nil_append, Option.some.injEq, exists_eq_left', top, List.cons.injEq, ↓reduceIte, Nat.reduceEqDiff, Nat.reduceLeDiff, Nat.reduceAdd, Nat.reduceSub, Nat.reduceMul, reduceCtorEq, Nat.succ_ne_zero, imp_T, imp_F, List.getElem?_nil, Int.reduceEq, Int.reduceLT, Int.reduceLE, Int.reduceNeg, Int.reduceAdd, Int.reduceSub, decide_true, decide_false, eq_self, not_true_eq_false, not_false_eq_true, ite_true, ite_false]
  exact hx.set (by omega) _

theorem ref_push (n ht : Int) (v : V) (fs : List Fm) (h : Heap) (hv : SlV h 4 v fs.length (encs fs)) :
    Ctr Try.prog 13 [.agg [.int .i64 ht, v], .int .i64 n] h fun x h' => Told h.next (pushT n) (decide (0 ≤ n)) ht fs x h' ∧ Ext h h' := by
  obtain ⟨one0, cl0, gd0⟩ := hv.one
  refine c13_ctr rfl (wpK_of ?_)
  unfold c13
  simp +contextual only [one0, cl0, gd0, ↓wpA1, ↓wpA2, ↓wpA3, wpB1, wpB2, wpB3, wpB4, wpB5, wpB6, repeatV, RX.evs, spl, over, ones, Ex.ends, evR, oneOf, Option.isSome_some, Option.getD_some, if_true, if_false, true_and, and_true, List.getElem?_cons_zero, List.getElem?_cons_succ, List.length_cons, List.length_nil, List.drop_zero, List.drop_succ_cons, List.take_succ_cons, List.take_zero, List.cons_append, List.nil_append, Option.some.injEq, exists_eq_left', top, List.cons.injEq, ↓reduceIte, Nat.reduceEqDiff, Nat.reduceLeDiff, Nat.reduceAdd, Nat.reduceSub, Nat.reduceMul, reduceCtorEq, Nat.succ_ne_zero, imp_T, imp_F, List.getElem?_nil, Int.reduceEq, Int.reduceLT, Int.reduceLE, Int.reduceNeg, Int.reduceAdd, Int.reduceSub, decide_true, decide_false, eq_self, not_true_eq_false, not_false_eq_true, ite_true, ite_false]
  have hx : Ext h ((h.new (.ofL [.int .i64 ht, v] 0 false)).new (.ofL [.int .i64 0, .nilslice] 0 false)) := ((Ext.refl h).new _).new _
  refine callK_intro (refcheck_ctr ht v fs _ (hv.ext hx)) ?_
  rintro x h1 ⟨rfl, hx1⟩
  have g0 : h1.get (pa h.next) = .ofL [.int .i64 ht, v] 0 false := by
    rw [hx1.get _ (old_lt (by simp only [next_new]; omega))]
    simp only [↓wpA1, ↓wpA2, ↓wpA3, wpB1, wpB2, wpB3, wpB4, wpB5, wpB6, repeatV, RX.evs, spl, over, ones, Ex.ends, evR, oneOf, Option.isSome_some, Option.getD_some, if_true, if_false, true_and, and_true, List.getElem?_cons_zero, List.getElem?_cons_succ, List.length_cons, List.length_nil, List.drop_zero, List.drop_succ_cons, List.take_succ_cons, List.take_zero, List.cons_append, List.nil_append, Option.some.injEq, exists_eq_left', top, List.cons.injEq, ↓reduceIte, Nat.reduceEqDiff, Nat.reduceLeDiff, Nat.reduceAdd, Nat.reduceSub, Nat.reduceMul, reduceCtorEq, Nat.succ_ne_zero, imp_T, imp_F, List.getElem?_nil, Int.reduceEq, Int.reduceLT, Int.reduceLE, Int.reduceNeg, Int.reduceAdd, Int.reduceSub, decide_true, decide_false, eq_self, not_true_eq_false, not_false_eq_true, ite_true, ite_false]
  have g1 : h1.get (pa (h.next + 1)) = .ofL [.int .i64 0, .nilslice] 0 false := by
    rw [hx1.get _ (old_lt (by simp only [next_new]; omega))]
    simp only [↓wpA1, ↓wpA2, ↓wpA3, wpB1, wpB2, wpB3, wpB4, wpB5, wpB6, repeatV, RX.evs, spl, over, ones, Ex.ends, evR, oneOf, Option.isSome_some, Option.getD_some, if_true, if_false, true_and, and_true, List.getElem?_cons_zero, List.getElem?_cons_succ, List.length_cons, List.length_nil, List.drop_zero, List.drop_succ_cons, List.take_succ_cons, List.take_zero, List.cons_append, List.nil_append, Option.some.injEq, exists_eq_left', top, List.cons.injEq, ↓reduceIte, Nat.reduceEqDiff, Nat.reduceLeDiff, Nat.reduceAdd, Nat.reduceSub, Nat.reduceMul, reduceCtorEq, Nat.succ_ne_zero, imp_T, imp_F, List.getElem?_nil, Int.reduceEq, Int.reduceLT, Int.reduceLE, Int.reduceNeg, Int.reduceAdd, Int.reduceSub, decide_true, decide_false, eq_self, not_true_eq_false, not_false_eq_true, ite_true, ite_false]
  have hx2 := hx.trans hx1
  by_cases hc : (decide (0 ≤ n) && checkB ht fs) = true
  · have hc1 : checkB ht fs = true := by simp at hc; exact hc.2
    have hc2 : ¬ n < 0 := by simp at hc; omega
    obtain ⟨l1, l2, l3, l4⟩ := check_len hc1
    have w1 : IntKind.i64.wrap (1073741824 - ht) = 1073741824 - ht := wrap_i64 (by omega) (by omega)
    by_cases hb : 1073741824 - ht < n
    · simp +contextual only [hc1, hc2, hb, w1, g0, g1, one0, cl0, gd0, ↓wpA1, ↓wpA2, ↓wpA3, wpB1, wpB2, wpB3, wpB4, wpB5, wpB6, repeatV, RX.evs, spl, over, ones, Ex.ends, evR, oneOf, Option.isSome_some, Option.getD_some, if_true, if_false, true_and, and_true, List.getElem?_cons_zero, List.getElem?_cons_succ, List.length_cons, List.length_nil, List.drop_zero, List.drop_succ_cons, List.take_succ_cons, List.take_zero, List.cons_append, List.nil_append, Option.some.injEq, exists_eq_left', top, List.cons.injEq, ↓reduceIte, Nat.reduceEqDiff, Nat.reduceLeDiff, Nat.reduceAdd, Nat.reduceSub, Nat.reduceMul, reduceCtorEq, Nat.succ_ne_zero, imp_T, imp_F, List.getElem?_nil, Int.reduceEq, Int.reduceLT, Int.reduceLE, Int.reduceNeg, Int.reduceAdd, Int.reduceSub, decide_true, decide_false, eq_self, not_true_eq_false, not_false_eq_true, ite_true, ite_false]
      refine ⟨?_, hx2.set (by omega) _⟩
      unfold Told
      rw [if_pos hc, if_neg (by simp [pushT, hb])]
      simp [pushT, hb, zeroS]
    · have w2 : IntKind.i64.wrap (ht + n) = ht + n := wrap_i64 (by omega) (by omega)
      simp +contextual only [hc1, hc2, hb, w1, w2, g0, g1, one0, cl0, gd0, ↓wpA1, ↓wpA2, ↓wpA3, wpB1, wpB2, wpB3, wpB4, wpB5, wpB6, repeatV, RX.evs, spl, over, ones, Ex.ends, evR, oneOf, Option.isSome_some, Option.getD_some, if_true, if_false, true_and, and_true, List.getElem?_cons_zero, List.getElem?_cons_succ, List.length_cons, List.length_nil, List.drop_zero, List.drop_succ_cons, List.take_succ_cons, List.take_zero, List.cons_append, List.nil_append, Option.some.injEq, exists_eq_left', top, List.cons.injEq, ↓reduceIte, Nat.reduceEqDiff, Nat.reduceLeDiff, Nat.reduceAdd, Nat.reduceSub, Nat.reduceMul, reduceCtorEq, Nat.succ_ne_zero, imp_T, imp_F, List.getElem?_nil, Int.reduceEq, Int.reduceLT, Int.reduceLE, Int.reduceNeg, Int.reduceAdd, Int.reduceSub, decide_true, decide_false, eq_self, not_true_eq_false, not_false_eq_true, ite_true, ite_false]
      refine callK_intro (ref_with ht (ht + n) v v fs h1 one0 cl0 gd0 (hv.ext hx2) (by omega)) ?_
      rintro y h2 ⟨⟨v2, rfl, ho⟩, hx3⟩
      obtain ⟨one2, cl2, gd2⟩ := ho.v.one
      have g2 : h2.get (pa (h.next + 1)) = .ofL [.int .i64 0, .nilslice] 0 false := by
        rw [hx3.get _ (old_lt (by have := hx1.next; simp only [next_new] at this; omega)), g1]
      simp +contextual only [g2, one2, cl2, gd2, ↓wpA1, ↓wpA2, ↓wpA3, wpB1, wpB2, wpB3, wpB4, wpB5, wpB6, repeatV, RX.evs, spl, over, ones, Ex.ends, evR, oneOf, Option.isSome_some, Option.getD_some, if_true, if_false, true_and, and_true, List.getElem?_cons_zero, List.getElem?_cons_succ, List.length_cons, List.length_nil, List.drop_zero, List.drop_succ_cons, List.take_succ_cons, List.take_zero, List.cons_append, List.nil_append, Option.some.injEq, exists_eq_left', top, List.cons.injEq, ↓reduceIte, Nat.reduceEqDiff, Nat.reduceLeDiff, Nat.reduceAdd, Nat.reduceSub, Nat.reduceMul, reduceCtorEq, Nat.succ_ne_zero, imp_T, imp_F, List.getElem?_nil, Int.reduceEq, Int.reduceLT, Int.reduceLE, Int.reduceNeg, Int.reduceAdd, Int.reduceSub, decide_true, decide_false, eq_self, not_true_eq_false, not_false_eq_true, ite_true, ite_false]
      refine ⟨?_, (hx2.trans hx3).set (by omega) _⟩
      unfold Told
      rw [if_pos hc, if_pos (by simp [pushT, hb])]
      simp only [pushT, hb, if_false]
      refine ⟨v2, rfl, (ho.mono (by have := hx2.next; omega)).mod ((Mod.refl (fun b => b = pa (h.next + 1)) h2).set (fun _ => rfl) _) fun b hb' q => ?_⟩
      have := ho.base hb'
      have := hx1.next
      simp only [next_new] at this
      rw [q, unPa_pa] at *
      omega
  · have hcc : (!decide (n < 0) && checkB ht fs) = false := by
      rw [← Bool.not_eq_true]
      intro q
      apply hc
      simp at q ⊢
      exact q
    have hcd : checkB ht fs = false ∨ n < 0 := by
      cases h0 : checkB ht fs
      · exact .inl rfl
      · right; simp [h0] at hcc; exact hcc
    by_cases hc1 : checkB ht fs = true
    · have hb : n < 0 := by simp [hc1] at hcd; exact hcd
      simp +contextual only [hc1, hb, g0, g1, one0, cl0, gd0, ↓wpA1, ↓wpA2, ↓wpA3, wpB1, wpB2, wpB3, wpB4, wpB5, wpB6, repeatV, RX.evs, spl, over, ones, Ex.ends, evR, oneOf, Option.isSome_some, Option.getD_some, if_true, if_false, true_and, and_true, List.getElem?_cons_zero, List.getElem?_cons_succ, List.length_cons, List.length_nil, List.drop_zero, List.drop_succ_cons, List.take_succ_cons, List.take_zero, List.cons_append, List.nil_append, Option.some.injEq, exists_eq_left', top, List.cons.injEq, ↓reduceIte, Nat.reduceEqDiff, Nat.reduceLeDiff, Nat.reduceAdd, Nat.reduceSub, Nat.reduceMul, reduceCtorEq, Nat.succ_ne_zero, imp_T, imp_F, List.getElem?_nil, Int.reduceEq, Int.reduceLT, Int.reduceLE, Int.reduceNeg, Int.reduceAdd, Int.reduceSub, decide_true, decide_false, eq_self, not_true_eq_false, not_false_eq_true, ite_true, ite_false]
      refine ⟨?_, hx2.set (by omega) _⟩
      unfold Told
      rw [if_neg hc]
      rfl
    · simp +contextual only [hc1, g0, g1, one0, cl0, gd0, ↓wpA1, ↓wpA2, ↓wpA3, wpB1, wpB2, wpB3, wpB4, wpB5, wpB6, repeatV, RX.evs, spl, over, ones, Ex.ends, evR, oneOf, Option.isSome_some, Option.getD_some, if_true, if_false, true_and, and_true, List.getElem?_cons_zero, List.getElem?_cons_succ, List.length_cons, List.length_nil, List.drop_zero, List.drop_succ_cons, List.take_succ_cons, List.take_zero, List.cons_append, List.nil_append, Option.some.injEq, exists_eq_left', top, List.cons.injEq, ↓reduceIte, Nat.reduceEqDiff, Nat.reduceLeDiff, Nat.reduceAdd, Nat.reduceSub, Nat.reduceMul, reduceCtorEq, Nat.succ_ne_zero, imp_T, imp_F, List.getElem?_nil, Int.reduceEq, Int.reduceLT, Int.reduceLE, Int.reduceNeg, Int.reduceAdd, Int.reduceSub, decide_true, decide_false, eq_self, not_true_eq_false, not_false_eq_true, ite_true, ite_false]
      refine ⟨?_, hx2.set (by omega) _⟩
      unfold Told
      rw [if_neg hc]
      rfl
end Go.Proofs.Ytkjifhoiiciblaa

namespace Go.Proofs.Ytkjifhoiiciblaa
open Go Am
set_option linter.unusedSimpArgs false
set_option linter.unusedVariables false

theorem ref_pop (n ht : Int) (v : V) (fs : List Fm) (h : Heap) (hv : SlV h 4 v fs.length (encs fs)) :
    Ctr Try.prog 15 [.agg [.int .i64 ht, v], .int .i64 n] h fun x h' => Told h.next (popT n) (decide (0 ≤ n)) ht fs x h' ∧ Ext h h' := by
  obtain ⟨one0, cl0, gd0⟩ := hv.one
  refine c15_ctr rfl (wpK_of ?_)
  unfold c15
  simp +contextual only [one0, cl0, gd0, ↓wpA1, ↓wpA2, ↓wpA3, wpB1, wpB2, wpB3, wpB4, wpB5, wpB6, repeatV, RX.evs, spl, over, ones, Ex.ends, evR, oneOf, Option.isSome_some, Option.getD_some, if_true, if_false, true_and, and_true, List.getElem?_cons_zero, List.getElem?_cons_succ, List.length_cons, List.length_nil, List.drop_zero, List.drop_succ_cons, List.take_succ_cons, List.take_zero, List.cons_append, List.nil_append, Option.some.injEq, exists_eq_left', top, List.cons.injEq, ↓reduceIte, Nat.reduceEqDiff, Nat.reduceLeDiff, Nat.reduceAdd, Nat.reduceSub, Nat.reduceMul, reduceCtorEq, Nat.succ_ne_zero, imp_T, imp_F, List.getElem?_nil, Int.reduceEq, Int.reduceLT, Int.reduceLE, Int.reduceNeg, Int.reduceAdd, Int.reduceSub, decide_true, decide_false, eq_self, not_true_eq_false, not_false_eq_true, ite_true, ite_false]
  have hx : Ext h ((h.new (.ofL [.int .i64 ht, v] 0 false)).new (.ofL [.int .i64 0, .nilslice] 0 false)) := ((Ext.refl h).new _).new _
  refine callK_intro (refcheck_ctr ht v fs _ (hv.ext hx)) ?_
  rintro x h1 ⟨rfl, hx1⟩
  have g0 : h1.get (pa h.next) = .ofL [.int .i64 ht, v] 0 false := by
    rw [hx1.get _ (old_lt (by simp only [next_new]; omega))]
    simp only [↓wpA1, ↓wpA2, ↓wpA3, wpB1, wpB2, wpB3, wpB4, wpB5, wpB6, repeatV, RX.evs, spl, over, ones, Ex.ends, evR, oneOf, Option.isSome_some, Option.getD_some, if_true, if_false, true_and, and_true, List.getElem?_cons_zero, List.getElem?_cons_succ, List.length_cons, List.length_nil, List.drop_zero, List.drop_succ_cons, List.take_succ_cons, List.take_zero, List.cons_append, List.nil_append, Option.some.injEq, exists_eq_left', top, List.cons.injEq, ↓reduceIte, Nat.reduceEqDiff, Nat.reduceLeDiff, Nat.reduceAdd, Nat.reduceSub, Nat.reduceMul, reduceCtorEq, Nat.succ_ne_zero, imp_T, imp_F, List.getElem?_nil, Int.reduceEq, Int.reduceLT, Int.reduceLE, Int.reduceNeg, Int.reduceAdd, Int.reduceSub, decide_true, decide_false, eq_self, not_true_eq_false, not_false_eq_true, ite_true, ite_false]
  have g1 : h1.get (pa (h.next + 1)) = .ofL [.int .i64 0, .nilslice] 0 false := by
    rw [hx1.get _ (old_lt (by simp only [next_new]; omega))]
    simp only [↓wpA1, ↓wpA2, ↓wpA3, wpB1, wpB2, wpB3, wpB4, wpB5, wpB6, repeatV, RX.evs, spl, over, ones, Ex.ends, evR, oneOf, Option.isSome_some, Option.getD_some, if_true, if_false, true_and, and_true, List.getElem?_cons_zero, List.getElem?_cons_succ, List.length_cons, List.length_nil, List.drop_zero, List.drop_succ_cons, List.take_succ_cons, List.take_zero, List.cons_append, List.nil_append, Option.some.injEq, exists_eq_left', top, List.cons.injEq, ↓reduceIte, Nat.reduceEqDiff, Nat.reduceLeDiff, Nat.reduceAdd, Nat.reduceSub, Nat.reduceMul, reduceCtorEq, Nat.succ_ne_zero, imp_T, imp_F, List.getElem?_nil, Int.reduceEq, Int.reduceLT, Int.reduceLE, Int.reduceNeg, Int.reduceAdd, Int.reduceSub, decide_true, decide_false, eq_self, not_true_eq_false, not_false_eq_true, ite_true, ite_false]
  have hx2 := hx.trans hx1
  have nx1 : h.next + 2 ≤ h1.next := hx1.next
  by_cases hc : (decide (0 ≤ n) && checkB ht fs) = true
  · have hc1 : checkB ht fs = true := by simp at hc; exact hc.2
    have hc2 : ¬ n < 0 := by simp at hc; omega
    obtain ⟨l1, l2, l3, l4⟩ := check_len hc1
    obtain ⟨b1, b2, b3, b4⟩ := check_last hc1
    simp +contextual only [hc1, hc2, g0, g1, one0, cl0, gd0, ↓wpA1, ↓wpA2, ↓wpA3, wpB1, wpB2, wpB3, wpB4, wpB5, wpB6, repeatV, RX.evs, spl, over, ones, Ex.ends, evR, oneOf, Option.isSome_some, Option.getD_some, if_true, if_false, true_and, and_true, List.getElem?_cons_zero, List.getElem?_cons_succ, List.length_cons, List.length_nil, List.drop_zero, List.drop_succ_cons, List.take_succ_cons, List.take_zero, List.cons_append, List.nil_append, Option.some.injEq, exists_eq_left', top, List.cons.injEq, ↓reduceIte, Nat.reduceEqDiff, Nat.reduceLeDiff, Nat.reduceAdd, Nat.reduceSub, Nat.reduceMul, reduceCtorEq, Nat.succ_ne_zero, imp_T, imp_F, List.getElem?_nil, Int.reduceEq, Int.reduceLT, Int.reduceLE, Int.reduceNeg, Int.reduceAdd, Int.reduceSub, decide_true, decide_false, eq_self, not_true_eq_false, not_false_eq_true, ite_true, ite_false]
    refine callK_intro (ref_last ht v fs h1 (hv.ext hx2) l1 (by omega)) ?_
    rintro y h2 ⟨rfl, hx3⟩
    have k0 : h2.get (pa h.next) = .ofL [.int .i64 ht, v] 0 false := by
      rw [hx3.get _ (old_lt (by omega)), g0]
    have k1 : h2.get (pa (h.next + 1)) = .ofL [.int .i64 0, .nilslice] 0 false := by
      rw [hx3.get _ (old_lt (by omega)), g1]
    have nx2 : h1.next ≤ h2.next := hx3.next
    have n0 : (pa h2.next = pa h.next) = False := by rw [pa_eq]; exact eq_false (by omega)
    have n1 : (pa h2.next = pa (h.next + 1)) = False := by rw [pa_eq]; exact eq_false (by omega)
    have w1 : IntKind.i64.wrap (ht - (lastF fs).base) = ht - (lastF fs).base := wrap_i64 (by omega) (by omega)
    by_cases hb : ht - (lastF fs).base < n ∧ (lastF fs).dead = false
    · simp +contextual only [hb.1, hb.2, w1, k0, k1, n0, n1, one0, cl0, gd0, Fm.enc, ↓wpA1, ↓wpA2, ↓wpA3, wpB1, wpB2, wpB3, wpB4, wpB5, wpB6, repeatV, RX.evs, spl, over, ones, Ex.ends, evR, oneOf, Option.isSome_some, Option.getD_some, if_true, if_false, true_and, and_true, List.getElem?_cons_zero, List.getElem?_cons_succ, List.length_cons, List.length_nil, List.drop_zero, List.drop_succ_cons, List.take_succ_cons, List.take_zero, List.cons_append, List.nil_append, Option.some.injEq, exists_eq_left', top, List.cons.injEq, ↓reduceIte, Nat.reduceEqDiff, Nat.reduceLeDiff, Nat.reduceAdd, Nat.reduceSub, Nat.reduceMul, reduceCtorEq, Nat.succ_ne_zero, imp_T, imp_F, List.getElem?_nil, Int.reduceEq, Int.reduceLT, Int.reduceLE, Int.reduceNeg, Int.reduceAdd, Int.reduceSub, decide_true, decide_false, eq_self, not_true_eq_false, not_false_eq_true, ite_true, ite_false]
      refine ⟨?_, (((hx2.trans hx3).new _).set (by omega) _).set (by omega) _⟩
      unfold Told
      rw [if_pos hc, if_neg (by simp [popT, hb])]
      simp [popT, hb, zeroS]
    · have hb' : (decide (ht - (lastF fs).base < n) && !(lastF fs).dead) = false := by
        rw [← Bool.not_eq_true]; intro q; apply hb; simpa using q
      have hb2 : ht - (lastF fs).base < n → (lastF fs).dead = true := by intro q; simpa [q] using hb'
      have w2 : IntKind.i64.wrap (ht - (if ht - (lastF fs).base < n then ht - (lastF fs).base else n)) = ht - (if ht - (lastF fs).base < n then ht - (lastF fs).base else n) := wrap_i64 (by split <;> omega) (by split <;> omega)
      have hxn : Ext h1 ((h2.new (.ofL [.int .i64 0, .int .i64 0, .int .i64 0, .bool false] 0 false)).set (pa h2.next) (.ofL (lastF fs).enc 0 false)) := ((hx3.new _).set (by omega) _)
      simp +contextual only [hb', w1, w2, k0, k1, n0, n1, one0, cl0, gd0, Fm.enc, ↓wpA1, ↓wpA2, ↓wpA3, wpB1, wpB2, wpB3, wpB4, wpB5, wpB6, repeatV, RX.evs, spl, over, ones, Ex.ends, evR, oneOf, Option.isSome_some, Option.getD_some, if_true, if_false, true_and, and_true, List.getElem?_cons_zero, List.getElem?_cons_succ, List.length_cons, List.length_nil, List.drop_zero, List.drop_succ_cons, List.take_succ_cons, List.take_zero, List.cons_append, List.nil_append, Option.some.injEq, exists_eq_left', top, List.cons.injEq, ↓reduceIte, Nat.reduceEqDiff, Nat.reduceLeDiff, Nat.reduceAdd, Nat.reduceSub, Nat.reduceMul, reduceCtorEq, Nat.succ_ne_zero, imp_T, imp_F, List.getElem?_nil, Int.reduceEq, Int.reduceLT, Int.reduceLE, Int.reduceNeg, Int.reduceAdd, Int.reduceSub, decide_true, decide_false, eq_self, not_true_eq_false, not_false_eq_true, ite_true, ite_false]
      refine callK_intro (ref_with ht _ v v fs _ one0 cl0 gd0 (hv.ext (hx2.trans hxn)) (by omega)) ?_
      rintro y h3 ⟨⟨v2, rfl, ho⟩, hx4⟩
      have hx5 := (hx2.trans hxn).trans hx4
      obtain ⟨one2, cl2, gd2⟩ := ho.v.one
      have g2 : h3.get (pa (h.next + 1)) = .ofL [.int .i64 0, .nilslice] 0 false := by
        rw [hx4.get _ (old_lt (by simp only [next_new, next_set]; omega))]
        simp only [k1, n1, ↓wpA1, ↓wpA2, ↓wpA3, wpB1, wpB2, wpB3, wpB4, wpB5, wpB6, repeatV, RX.evs, spl, over, ones, Ex.ends, evR, oneOf, Option.isSome_some, Option.getD_some, if_true, if_false, true_and, and_true, List.getElem?_cons_zero, List.getElem?_cons_succ, List.length_cons, List.length_nil, List.drop_zero, List.drop_succ_cons, List.take_succ_cons, List.take_zero, List.cons_append, List.nil_append, Option.some.injEq, exists_eq_left', top, List.cons.injEq, ↓reduceIte, Nat.reduceEqDiff, Nat.reduceLeDiff, Nat.reduceAdd, Nat.reduceSub, Nat.reduceMul, reduceCtorEq, Nat.succ_ne_zero, imp_T, imp_F, List.getElem?_nil, Int.reduceEq, Int.reduceLT, Int.reduceLE, Int.reduceNeg, Int.reduceAdd, Int.reduceSub, decide_true, decide_false, eq_self, not_true_eq_false, not_false_eq_true, ite_true, ite_false]
      simp +contextual only [g2, one2, cl2, gd2, ↓wpA1, ↓wpA2, ↓wpA3, wpB1, wpB2, wpB3, wpB4, wpB5, wpB6, repeatV, RX.evs, spl, over, ones, Ex.ends, evR, oneOf, Option.isSome_some, Option.getD_some, if_true, if_false, true_and, and_true, List.getElem?_cons_zero, List.getElem?_cons_succ, List.length_cons, List.length_nil, List.drop_zero, List.drop_succ_cons, List.take_succ_cons, List.take_zero, List.cons_append, List.nil_append, Option.some.injEq, exists_eq_left', top, List.cons.injEq, ↓reduceIte, Nat.reduceEqDiff, Nat.reduceLeDiff, Nat.reduceAdd, Nat.reduceSub, Nat.reduceMul, reduceCtorEq, Nat.succ_ne_zero, imp_T, imp_F, List.getElem?_nil, Int.reduceEq, Int.reduceLT, Int.reduceLE, Int.reduceNeg, Int.reduceAdd, Int.reduceSub, decide_true, decide_false, eq_self, not_true_eq_false, not_false_eq_true, ite_true, ite_false]
      refine ⟨?_, hx5.set (by omega) _⟩
      unfold Told
      rw [if_pos hc, if_pos (by simp only [popT, if_neg hb])]
      simp only [popT, if_neg hb]
      refine ⟨v2, rfl, (ho.mono (by simp only [next_set, next_new]; omega)).mod ((Mod.refl (fun b => b = pa (h.next + 1)) h3).set (fun _ => rfl) _) fun b hb' q => ?_⟩
      have := ho.base hb'
      rw [q, unPa_pa] at *
      simp only [next_set, next_new] at this
      omega
  · by_cases hc1 : checkB ht fs = true
    · have hb : n < 0 := by simp [hc1] at hc; exact hc
      simp +contextual only [hc1, hb, g0, g1, one0, cl0, gd0, ↓wpA1, ↓wpA2, ↓wpA3, wpB1, wpB2, wpB3, wpB4, wpB5, wpB6, repeatV, RX.evs, spl, over, ones, Ex.ends, evR, oneOf, Option.isSome_some, Option.getD_some, if_true, if_false, true_and, and_true, List.getElem?_cons_zero, List.getElem?_cons_succ, List.length_cons, List.length_nil, List.drop_zero, List.drop_succ_cons, List.take_succ_cons, List.take_zero, List.cons_append, List.nil_append, Option.some.injEq, exists_eq_left', top, List.cons.injEq, ↓reduceIte, Nat.reduceEqDiff, Nat.reduceLeDiff, Nat.reduceAdd, Nat.reduceSub, Nat.reduceMul, reduceCtorEq, Nat.succ_ne_zero, imp_T, imp_F, List.getElem?_nil, Int.reduceEq, Int.reduceLT, Int.reduceLE, Int.reduceNeg, Int.reduceAdd, Int.reduceSub, decide_true, decide_false, eq_self, not_true_eq_false, not_false_eq_true, ite_true, ite_false]
      refine ⟨?_, hx2.set (by omega) _⟩
      unfold Told
      rw [if_neg hc]
      rfl
    · simp +contextual only [hc1, g0, g1, one0, cl0, gd0, ↓wpA1, ↓wpA2, ↓wpA3, wpB1, wpB2, wpB3, wpB4, wpB5, wpB6, repeatV, RX.evs, spl, over, ones, Ex.ends, evR, oneOf, Option.isSome_some, Option.getD_some, if_true, if_false, true_and, and_true, List.getElem?_cons_zero, List.getElem?_cons_succ, List.length_cons, List.length_nil, List.drop_zero, List.drop_succ_cons, List.take_succ_cons, List.take_zero, List.cons_append, List.nil_append, Option.some.injEq, exists_eq_left', top, List.cons.injEq, ↓reduceIte, Nat.reduceEqDiff, Nat.reduceLeDiff, Nat.reduceAdd, Nat.reduceSub, Nat.reduceMul, reduceCtorEq, Nat.succ_ne_zero, imp_T, imp_F, List.getElem?_nil, Int.reduceEq, Int.reduceLT, Int.reduceLE, Int.reduceNeg, Int.reduceAdd, Int.reduceSub, decide_true, decide_false, eq_self, not_true_eq_false, not_false_eq_true, ite_true, ite_false]
      refine ⟨?_, hx2.set (by omega) _⟩
      unfold Told
      rw [if_neg hc]
      rfl
end Go.Proofs.Ytkjifhoiiciblaa

namespace Go.Proofs.Ytkjifhoiiciblaa
open Go Am
set_option linter.unusedSimpArgs false
set_option linter.unusedVariables false

theorem encs_app (xs ys : List Fm) : encs (xs ++ ys) = encs xs ++ encs ys := by unfold encs; rw [List.flatMap_append]
theorem encs_drop (fs : List Fm) (n : Nat) (hn : n ≤ fs.length) : (encs fs).drop (n * 4) = encs (fs.drop n) := by
  have h1 : encs fs = encs (fs.take n) ++ encs (fs.drop n) := by rw [← encs_app, List.take_append_drop]
  rw [h1, List.drop_left' (by rw [encs_length, List.length_take]; omega)]
theorem encs_put (fs : List Fm) (i : Nat) (f : Fm) (hi : i < fs.length) : encs (fs.set i f) = splice (encs fs) (i * 4) f.enc := by
  unfold splice
  rw [encs_take fs i (by omega), show i * 4 + f.enc.length = (i + 1) * 4 from by simp [Fm.enc]; omega, encs_drop fs (i + 1) (by omega), List.set_eq_take_append_cons_drop, if_pos hi]
  have e : f :: fs.drop (i + 1) = [f] ++ fs.drop (i + 1) := rfl
  rw [e, encs_app, encs_app]
  have e2 : encs [f] = f.enc := by simp [encs]
  rw [e2, List.append_assoc]

theorem ref_new (res : Int) (h : Heap) :
    Ctr Try.prog 25 [.int .i64 res] h fun x h' => (if res < 0 ∨ 1 < res then x = .tuple [zeroS, .int .i64 2] else ∃ v2, x = .tuple [.agg [.int .i64 0, v2], .int .i64 0] ∧ SlO h.next h' 4 v2 1 (encs [⟨0, 0, res, false⟩])) ∧ Ext h h' := by
  refine c25_ctr rfl (wpK_of ?_)
  unfold c25
  simp +contextual only [↓wpA1, ↓wpA2, ↓wpA3, wpB1, wpB2, wpB3, wpB4, wpB5, wpB6, repeatV, RX.evs, spl, over, ones, Ex.ends, evR, oneOf, Option.isSome_some, Option.getD_some, if_true, if_false, true_and, and_true, List.getElem?_cons_zero, List.getElem?_cons_succ, List.length_cons, List.length_nil, List.drop_zero, List.drop_succ_cons, List.take_succ_cons, List.take_zero, List.cons_append, List.nil_append, Option.some.injEq, exists_eq_left', top, List.cons.injEq, ↓reduceIte, Nat.reduceEqDiff, Nat.reduceLeDiff, Nat.reduceAdd, Nat.reduceSub, Nat.reduceMul, reduceCtorEq, Nat.succ_ne_zero, imp_T, imp_F, List.getElem?_nil, Int.reduceEq, Int.reduceLT, Int.reduceLE, Int.reduceNeg, Int.reduceAdd, Int.reduceSub, decide_true, decide_false, eq_self, not_true_eq_false, not_false_eq_true, ite_true, ite_false]
  refine ⟨fun hc => ⟨?_, ((Ext.refl h).new _).set (Nat.le_refl _) _⟩, fun hc => ⟨?_, (((Ext.refl h).new _).new _).set (Nat.le_refl _) _⟩⟩
  · rw [if_pos (by simpa using hc)]
    rfl
  · rw [if_neg (by simpa using hc)]
    refine ⟨_, rfl, rfl, rfl, by rw [unPa_pa]; omega, old_lt (by simp only [next_new, next_set]; omega), Nat.le_refl _, by unfold top; omega, [.int .i64 0, .int .i64 0, .int .i64 res, .bool false], 0, false, ?_, Nat.le_refl _, rfl⟩
    simp only [↓wpA1, ↓wpA2, ↓wpA3, wpB1, wpB2, wpB3, wpB4, wpB5, wpB6, repeatV, RX.evs, spl, over, ones, Ex.ends, evR, oneOf, Option.isSome_some, Option.getD_some, if_true, if_false, true_and, and_true, List.getElem?_cons_zero, List.getElem?_cons_succ, List.length_cons, List.length_nil, List.drop_zero, List.drop_succ_cons, List.take_succ_cons, List.take_zero, List.cons_append, List.nil_append, Option.some.injEq, exists_eq_left', top, List.cons.injEq, ↓reduceIte, Nat.reduceEqDiff, Nat.reduceLeDiff, Nat.reduceAdd, Nat.reduceSub, Nat.reduceMul, reduceCtorEq, Nat.succ_ne_zero, imp_T, imp_F, List.getElem?_nil, Int.reduceEq, Int.reduceLT, Int.reduceLE, Int.reduceNeg, Int.reduceAdd, Int.reduceSub, decide_true, decide_false, eq_self, not_true_eq_false, not_false_eq_true, ite_true, ite_false]

theorem ref_label (n ht : Int) (v : V) (fs : List Fm) (h : Heap) (hv : SlV h 4 v fs.length (encs fs)) :
    Ctr Try.prog 23 [.agg [.int .i64 ht, v], .int .i64 n] h fun x h' => x = .tuple [.int .i64 (labelM n ht fs).1, .int .i64 (labelM n ht fs).2] ∧ Ext h h' := by
  obtain ⟨one0, cl0, gd0⟩ := hv.one
  refine c23_ctr rfl (wpK_of ?_)
  unfold c23
  simp +contextual only [one0, cl0, gd0, ↓wpA1, ↓wpA2, ↓wpA3, wpB1, wpB2, wpB3, wpB4, wpB5, wpB6, repeatV, RX.evs, spl, over, ones, Ex.ends, evR, oneOf, Option.isSome_some, Option.getD_some, if_true, if_false, true_and, and_true, List.getElem?_cons_zero, List.getElem?_cons_succ, List.length_cons, List.length_nil, List.drop_zero, List.drop_succ_cons, List.take_succ_cons, List.take_zero, List.cons_append, List.nil_append, Option.some.injEq, exists_eq_left', top, List.cons.injEq, ↓reduceIte, Nat.reduceEqDiff, Nat.reduceLeDiff, Nat.reduceAdd, Nat.reduceSub, Nat.reduceMul, reduceCtorEq, Nat.succ_ne_zero, imp_T, imp_F, List.getElem?_nil, Int.reduceEq, Int.reduceLT, Int.reduceLE, Int.reduceNeg, Int.reduceAdd, Int.reduceSub, decide_true, decide_false, eq_self, not_true_eq_false, not_false_eq_true, ite_true, ite_false]
  have hx : Ext h (h.new (.ofL [.int .i64 ht, v] 0 false)) := (Ext.refl h).new _
  refine callK_intro (refcheck_ctr ht v fs _ (hv.ext hx)) ?_
  rintro x h1 ⟨rfl, hx1⟩
  have g0 : h1.get (pa h.next) = .ofL [.int .i64 ht, v] 0 false := by
    rw [hx1.get _ (old_lt (by simp only [next_new]; omega))]
    simp only [↓wpA1, ↓wpA2, ↓wpA3, wpB1, wpB2, wpB3, wpB4, wpB5, wpB6, repeatV, RX.evs, spl, over, ones, Ex.ends, evR, oneOf, Option.isSome_some, Option.getD_some, if_true, if_false, true_and, and_true, List.getElem?_cons_zero, List.getElem?_cons_succ, List.length_cons, List.length_nil, List.drop_zero, List.drop_succ_cons, List.take_succ_cons, List.take_zero, List.cons_append, List.nil_append, Option.some.injEq, exists_eq_left', top, List.cons.injEq, ↓reduceIte, Nat.reduceEqDiff, Nat.reduceLeDiff, Nat.reduceAdd, Nat.reduceSub, Nat.reduceMul, reduceCtorEq, Nat.succ_ne_zero, imp_T, imp_F, List.getElem?_nil, Int.reduceEq, Int.reduceLT, Int.reduceLE, Int.reduceNeg, Int.reduceAdd, Int.reduceSub, decide_true, decide_false, eq_self, not_true_eq_false, not_false_eq_true, ite_true, ite_false]
  have hlen := hv.len
  cases hc : checkB ht fs with
  | false =>
    simp +contextual only [hc, g0, hlen, ↓wpA1, ↓wpA2, ↓wpA3, wpB1, wpB2, wpB3, wpB4, wpB5, wpB6, repeatV, RX.evs, spl, over, ones, Ex.ends, evR, oneOf, Option.isSome_some, Option.getD_some, if_true, if_false, true_and, and_true, List.getElem?_cons_zero, List.getElem?_cons_succ, List.length_cons, List.length_nil, List.drop_zero, List.drop_succ_cons, List.take_succ_cons, List.take_zero, List.cons_append, List.nil_append, Option.some.injEq, exists_eq_left', top, List.cons.injEq, ↓reduceIte, Nat.reduceEqDiff, Nat.reduceLeDiff, Nat.reduceAdd, Nat.reduceSub, Nat.reduceMul, reduceCtorEq, Nat.succ_ne_zero, imp_T, imp_F, List.getElem?_nil, Int.reduceEq, Int.reduceLT, Int.reduceLE, Int.reduceNeg, Int.reduceAdd, Int.reduceSub, decide_true, decide_false, eq_self, not_true_eq_false, not_false_eq_true, ite_true, ite_false]
    exact ⟨by simp [labelM, hc], hx.trans hx1⟩
  | true =>
    obtain ⟨l1, l2, l3, l4⟩ := check_len hc
    by_cases hb : n < 0 ∨ (fs.length : Int) ≤ n
    · have hb' : (decide (n < 0) || decide ((fs.length : Int) ≤ n)) = true := by simpa using hb
      simp +contextual only [hc, g0, hlen, hb', ↓wpA1, ↓wpA2, ↓wpA3, wpB1, wpB2, wpB3, wpB4, wpB5, wpB6, repeatV, RX.evs, spl, over, ones, Ex.ends, evR, oneOf, Option.isSome_some, Option.getD_some, if_true, if_false, true_and, and_true, List.getElem?_cons_zero, List.getElem?_cons_succ, List.length_cons, List.length_nil, List.drop_zero, List.drop_succ_cons, List.take_succ_cons, List.take_zero, List.cons_append, List.nil_append, Option.some.injEq, exists_eq_left', top, List.cons.injEq, ↓reduceIte, Nat.reduceEqDiff, Nat.reduceLeDiff, Nat.reduceAdd, Nat.reduceSub, Nat.reduceMul, reduceCtorEq, Nat.succ_ne_zero, imp_T, imp_F, List.getElem?_nil, Int.reduceEq, Int.reduceLT, Int.reduceLE, Int.reduceNeg, Int.reduceAdd, Int.reduceSub, decide_true, decide_false, eq_self, not_true_eq_false, not_false_eq_true, ite_true, ite_false]
      exact ⟨by simp [labelM, hc, hb], hx.trans hx1⟩
    · have hb' : (decide (n < 0) || decide ((fs.length : Int) ≤ n)) = false := by simpa using hb
      have w1 : IntKind.i64.wrap ((fs.length : Int) - 1) = ((fs.length - 1 : Nat) : Int) := by rw [wrap_i64 (by omega) (by omega)]; omega
      have w2 : IntKind.i64.wrap (((fs.length - 1 : Nat) : Int) - n) = ((fs.length - 1 - n.toNat : Nat) : Int) := by rw [wrap_i64 (by omega) (by omega)]; omega
      have hlt : fs.length - 1 - n.toNat < fs.length := by omega
      obtain ⟨b, off, hia, hat, _⟩ := (hv.ext (hx.trans hx1)).ia' (k := .i64) hlt
      have hld := hat.ldn (i := (fs.length - 1 - n.toNat) * 4) (n := 4) (by rw [encs_length]; omega)
      rw [encs_at fs _ hlt] at hld
      simp +contextual only [hc, g0, hlen, hb', w1, w2, hia, hld, Fm.enc, ↓wpA1, ↓wpA2, ↓wpA3, wpB1, wpB2, wpB3, wpB4, wpB5, wpB6, repeatV, RX.evs, spl, over, ones, Ex.ends, evR, oneOf, Option.isSome_some, Option.getD_some, if_true, if_false, true_and, and_true, List.getElem?_cons_zero, List.getElem?_cons_succ, List.length_cons, List.length_nil, List.drop_zero, List.drop_succ_cons, List.take_succ_cons, List.take_zero, List.cons_append, List.nil_append, Option.some.injEq, exists_eq_left', top, List.cons.injEq, ↓reduceIte, Nat.reduceEqDiff, Nat.reduceLeDiff, Nat.reduceAdd, Nat.reduceSub, Nat.reduceMul, reduceCtorEq, Nat.succ_ne_zero, imp_T, imp_F, List.getElem?_nil, Int.reduceEq, Int.reduceLT, Int.reduceLE, Int.reduceNeg, Int.reduceAdd, Int.reduceSub, decide_true, decide_false, eq_self, not_true_eq_false, not_false_eq_true, ite_true, ite_false]
      have hxf : Ext h _ := (((hx.trans hx1).new (.ofL [.int .i64 0, .int .i64 0, .int .i64 0, .bool false] 0 false)).set (i := h1.next) (by have := (hx.trans hx1).next; omega) (.ofL [.int .i64 (fs[fs.length - 1 - n.toNat]).op, .int .i64 (fs[fs.length - 1 - n.toNat]).base, .int .i64 (fs[fs.length - 1 - n.toNat]).res, .bool (fs[fs.length - 1 - n.toNat]).dead] 0 false))
      refine ⟨fun hop => ⟨?_, hxf⟩, fun hop => ⟨?_, hxf⟩⟩
      · simp [labelM, hc, hb, List.getElem?_eq_getElem hlt]
        simp at hop
        simp [hop]
      · simp [labelM, hc, hb, List.getElem?_eq_getElem hlt]
        simp at hop
        simp [hop]

theorem ref_enter (op res ht : Int) (v : V) (fs : List Fm) (h : Heap) (hv : SlV h 4 v fs.length (encs fs)) :
    Ctr Try.prog 19 [.agg [.int .i64 ht, v], .int .i64 op, .int .i64 res] h fun x h' => Told h.next (enterT op res) (isList op && decide (0 ≤ res) && decide (res ≤ 1)) ht fs x h' ∧ Ext h h' := by
  obtain ⟨one0, cl0, gd0⟩ := hv.one
  refine c19_ctr rfl (wpK_of ?_)
  unfold c19
  simp +contextual only [one0, cl0, gd0, ↓wpA1, ↓wpA2, ↓wpA3, wpB1, wpB2, wpB3, wpB4, wpB5, wpB6, repeatV, RX.evs, spl, over, ones, Ex.ends, evR, oneOf, Option.isSome_some, Option.getD_some, if_true, if_false, true_and, and_true, List.getElem?_cons_zero, List.getElem?_cons_succ, List.length_cons, List.length_nil, List.drop_zero, List.drop_succ_cons, List.take_succ_cons, List.take_zero, List.cons_append, List.nil_append, Option.some.injEq, exists_eq_left', top, List.cons.injEq, ↓reduceIte, Nat.reduceEqDiff, Nat.reduceLeDiff, Nat.reduceAdd, Nat.reduceSub, Nat.reduceMul, reduceCtorEq, Nat.succ_ne_zero, imp_T, imp_F, List.getElem?_nil, Int.reduceEq, Int.reduceLT, Int.reduceLE, Int.reduceNeg, Int.reduceAdd, Int.reduceSub, decide_true, decide_false, eq_self, not_true_eq_false, not_false_eq_true, ite_true, ite_false]
  have hx : Ext h ((h.new (.ofL [.int .i64 ht, v] 0 false)).new (.ofL [.int .i64 0, .nilslice] 0 false)) := ((Ext.refl h).new _).new _
  refine callK_intro (refcheck_ctr ht v fs _ (hv.ext hx)) ?_
  rintro x h1 ⟨rfl, hx1⟩
  have g0 : h1.get (pa h.next) = .ofL [.int .i64 ht, v] 0 false := by
    rw [hx1.get _ (old_lt (by simp only [next_new]; omega))]
    simp only [↓wpA1, ↓wpA2, ↓wpA3, wpB1, wpB2, wpB3, wpB4, wpB5, wpB6, repeatV, RX.evs, spl, over, ones, Ex.ends, evR, oneOf, Option.isSome_some, Option.getD_some, if_true, if_false, true_and, and_true, List.getElem?_cons_zero, List.getElem?_cons_succ, List.length_cons, List.length_nil, List.drop_zero, List.drop_succ_cons, List.take_succ_cons, List.take_zero, List.cons_append, List.nil_append, Option.some.injEq, exists_eq_left', top, List.cons.injEq, ↓reduceIte, Nat.reduceEqDiff, Nat.reduceLeDiff, Nat.reduceAdd, Nat.reduceSub, Nat.reduceMul, reduceCtorEq, Nat.succ_ne_zero, imp_T, imp_F, List.getElem?_nil, Int.reduceEq, Int.reduceLT, Int.reduceLE, Int.reduceNeg, Int.reduceAdd, Int.reduceSub, decide_true, decide_false, eq_self, not_true_eq_false, not_false_eq_true, ite_true, ite_false]
  have g1 : h1.get (pa (h.next + 1)) = .ofL [.int .i64 0, .nilslice] 0 false := by
    rw [hx1.get _ (old_lt (by simp only [next_new]; omega))]
    simp only [↓wpA1, ↓wpA2, ↓wpA3, wpB1, wpB2, wpB3, wpB4, wpB5, wpB6, repeatV, RX.evs, spl, over, ones, Ex.ends, evR, oneOf, Option.isSome_some, Option.getD_some, if_true, if_false, true_and, and_true, List.getElem?_cons_zero, List.getElem?_cons_succ, List.length_cons, List.length_nil, List.drop_zero, List.drop_succ_cons, List.take_succ_cons, List.take_zero, List.cons_append, List.nil_append, Option.some.injEq, exists_eq_left', top, List.cons.injEq, ↓reduceIte, Nat.reduceEqDiff, Nat.reduceLeDiff, Nat.reduceAdd, Nat.reduceSub, Nat.reduceMul, reduceCtorEq, Nat.succ_ne_zero, imp_T, imp_F, List.getElem?_nil, Int.reduceEq, Int.reduceLT, Int.reduceLE, Int.reduceNeg, Int.reduceAdd, Int.reduceSub, decide_true, decide_false, eq_self, not_true_eq_false, not_false_eq_true, ite_true, ite_false]
  have hx2 := hx.trans hx1
  have nx1 : h.next + 2 ≤ h1.next := hx1.next
  have hlen := hv.len
  cases hc1 : checkB ht fs with
  | false =>
    simp +contextual only [hc1, g0, g1, one0, cl0, gd0, ↓wpA1, ↓wpA2, ↓wpA3, wpB1, wpB2, wpB3, wpB4, wpB5, wpB6, repeatV, RX.evs, spl, over, ones, Ex.ends, evR, oneOf, Option.isSome_some, Option.getD_some, if_true, if_false, true_and, and_true, List.getElem?_cons_zero, List.getElem?_cons_succ, List.length_cons, List.length_nil, List.drop_zero, List.drop_succ_cons, List.take_succ_cons, List.take_zero, List.cons_append, List.nil_append, Option.some.injEq, exists_eq_left', top, List.cons.injEq, ↓reduceIte, Nat.reduceEqDiff, Nat.reduceLeDiff, Nat.reduceAdd, Nat.reduceSub, Nat.reduceMul, reduceCtorEq, Nat.succ_ne_zero, imp_T, imp_F, List.getElem?_nil, Int.reduceEq, Int.reduceLT, Int.reduceLE, Int.reduceNeg, Int.reduceAdd, Int.reduceSub, decide_true, decide_false, eq_self, not_true_eq_false, not_false_eq_true, ite_true, ite_false]
    refine ⟨?_, hx2.set (by omega) _⟩
    unfold Told
    rw [hc1, Bool.and_false]
    rfl
  | true =>
    obtain ⟨l1, l2, l3, l4⟩ := check_len hc1
    simp +contextual only [hc1, g0, g1, one0, cl0, gd0, ↓wpA1, ↓wpA2, ↓wpA3, wpB1, wpB2, wpB3, wpB4, wpB5, wpB6, repeatV, RX.evs, spl, over, ones, Ex.ends, evR, oneOf, Option.isSome_some, Option.getD_some, if_true, if_false, true_and, and_true, List.getElem?_cons_zero, List.getElem?_cons_succ, List.length_cons, List.length_nil, List.drop_zero, List.drop_succ_cons, List.take_succ_cons, List.take_zero, List.cons_append, List.nil_append, Option.some.injEq, exists_eq_left', top, List.cons.injEq, ↓reduceIte, Nat.reduceEqDiff, Nat.reduceLeDiff, Nat.reduceAdd, Nat.reduceSub, Nat.reduceMul, reduceCtorEq, Nat.succ_ne_zero, imp_T, imp_F, List.getElem?_nil, Int.reduceEq, Int.reduceLT, Int.reduceLE, Int.reduceNeg, Int.reduceAdd, Int.reduceSub, decide_true, decide_false, eq_self, not_true_eq_false, not_false_eq_true, ite_true, ite_false]
    refine callK_pure (lists_pure op _) ?_
    by_cases hf : (isList op && decide (0 ≤ res) && decide (res ≤ 1)) = true
    · have f1 : isList op = true := by simp at hf; exact hf.1.1
      have f2 : ¬ res < 0 := by simp at hf; omega
      have f3 : ¬ 1 < res := by simp at hf; omega
      by_cases hb : 1000 ≤ fs.length
      · have hbi : (1000 : Int) ≤ (fs.length : Int) := by omega
        simp +contextual only [f1, f2, f3, hbi, hlen, hc1, g0, g1, one0, cl0, gd0, ↓wpA1, ↓wpA2, ↓wpA3, wpB1, wpB2, wpB3, wpB4, wpB5, wpB6, repeatV, RX.evs, spl, over, ones, Ex.ends, evR, oneOf, Option.isSome_some, Option.getD_some, if_true, if_false, true_and, and_true, List.getElem?_cons_zero, List.getElem?_cons_succ, List.length_cons, List.length_nil, List.drop_zero, List.drop_succ_cons, List.take_succ_cons, List.take_zero, List.cons_append, List.nil_append, Option.some.injEq, exists_eq_left', top, List.cons.injEq, ↓reduceIte, Nat.reduceEqDiff, Nat.reduceLeDiff, Nat.reduceAdd, Nat.reduceSub, Nat.reduceMul, reduceCtorEq, Nat.succ_ne_zero, imp_T, imp_F, List.getElem?_nil, Int.reduceEq, Int.reduceLT, Int.reduceLE, Int.reduceNeg, Int.reduceAdd, Int.reduceSub, decide_true, decide_false, eq_self, not_true_eq_false, not_false_eq_true, ite_true, ite_false]
        refine ⟨?_, hx2.set (by omega) _⟩
        unfold Told
        have hf2 := hf
        rw [f1, Bool.true_and] at hf2
        rw [hc1, hf2, Bool.and_self, if_pos rfl, if_neg (by simp [enterT, hb])]
        simp [enterT, hb, zeroS]
      · have hbi : ¬ (1000 : Int) ≤ (fs.length : Int) := by omega
        simp +contextual only [f1, f2, f3, hbi, hlen, hc1, g0, g1, one0, cl0, gd0, ↓wpA1, ↓wpA2, ↓wpA3, wpB1, wpB2, wpB3, wpB4, wpB5, wpB6, repeatV, RX.evs, spl, over, ones, Ex.ends, evR, oneOf, Option.isSome_some, Option.getD_some, if_true, if_false, true_and, and_true, List.getElem?_cons_zero, List.getElem?_cons_succ, List.length_cons, List.length_nil, List.drop_zero, List.drop_succ_cons, List.take_succ_cons, List.take_zero, List.cons_append, List.nil_append, Option.some.injEq, exists_eq_left', top, List.cons.injEq, ↓reduceIte, Nat.reduceEqDiff, Nat.reduceLeDiff, Nat.reduceAdd, Nat.reduceSub, Nat.reduceMul, reduceCtorEq, Nat.succ_ne_zero, imp_T, imp_F, List.getElem?_nil, Int.reduceEq, Int.reduceLT, Int.reduceLE, Int.reduceNeg, Int.reduceAdd, Int.reduceSub, decide_true, decide_false, eq_self, not_true_eq_false, not_false_eq_true, ite_true, ite_false]
        refine callK_intro (ref_with ht ht v v fs h1 one0 cl0 gd0 (hv.ext hx2) (by omega)) ?_
        rintro y h2 ⟨⟨v2, rfl, ho⟩, hx3⟩
        obtain ⟨one2, cl2, gd2⟩ := ho.v.one
        have nx2 := hx3.next
        have k0 : h2.get (pa h.next) = .ofL [.int .i64 ht, v] 0 false := by
          rw [hx3.get _ (old_lt (by omega)), g0]
        have k1 : h2.get (pa (h.next + 1)) = .ofL [.int .i64 0, .nilslice] 0 false := by
          rw [hx3.get _ (old_lt (by omega)), g1]
        have n0 : (pa h2.next = pa h.next) = False := by rw [pa_eq]; exact eq_false (by omega)
        have n1 : (pa h2.next = pa (h.next + 1)) = False := by rw [pa_eq]; exact eq_false (by omega)
        -- the new block of the stand, the frame's slice, and append
        generalize eh : ((h2.new (.ofL [.int .i64 0, .nilslice] 0 false)).set (pa h2.next) (.ofL [.int .i64 ht, v2] 0 false)).new (.ofL [.int .i64 op, .int .i64 ht, .int .i64 res, .bool false] 0 false) = h3
        have hxx : Ext h2 h3 := by rw [← eh]; exact (((Ext.refl _).new _).set (by omega) _).new _
        have n3 : h3.next = h2.next + 2 := by rw [← eh]; simp only [next_new, next_set]
        have hnew : h3.get (pa (h2.next + 1)) = .ofL [.int .i64 op, .int .i64 ht, .int .i64 res, .bool false] 0 false := by
          rw [← eh]; simp only [↓wpA1, ↓wpA2, ↓wpA3, wpB1, wpB2, wpB3, wpB4, wpB5, wpB6, repeatV, RX.evs, spl, over, ones, Ex.ends, evR, oneOf, Option.isSome_some, Option.getD_some, if_true, if_false, true_and, and_true, List.getElem?_cons_zero, List.getElem?_cons_succ, List.length_cons, List.length_nil, List.drop_zero, List.drop_succ_cons, List.take_succ_cons, List.take_zero, List.cons_append, List.nil_append, Option.some.injEq, exists_eq_left', top, List.cons.injEq, ↓reduceIte, Nat.reduceEqDiff, Nat.reduceLeDiff, Nat.reduceAdd, Nat.reduceSub, Nat.reduceMul, reduceCtorEq, Nat.succ_ne_zero, imp_T, imp_F, List.getElem?_nil, Int.reduceEq, Int.reduceLT, Int.reduceLE, Int.reduceNeg, Int.reduceAdd, Int.reduceSub, decide_true, decide_false, eq_self, not_true_eq_false, not_false_eq_true, ite_true, ite_false]
        have hs1 : SlV h3 4 (.slice (pa (h2.next + 1)) 0 1 1) 1 [.int .i64 op, .int .i64 ht, .int .i64 res, .bool false] :=
          ⟨rfl, rfl, old_lt (by omega), _, .inr ⟨0, false, hnew⟩, Nat.le_refl _, rfl⟩
        obtain ⟨v3, h4, a1, a2, a3, a4⟩ := app_own (B := h1.next) (by omega) (ho.ext hxx) hs1 (by omega) (by unfold top; omega) rfl
        have hnb : ∀ i, h2.next ≤ i → ¬ v2.blk (pa i) := fun i hi q => by
          have := ho.v.old q
          unfold Old at this
          rw [unPa_pa] at this
          omega
        have hnb' : ∀ i, i < h1.next → ¬ v2.blk (pa i) := fun i hi q => by
          have := ho.base q
          rw [unPa_pa] at this
          omega
        have k2 : h4.get (pa h2.next) = .ofL [.int .i64 ht, v2] 0 false := by
          rw [a3.get _ (old_lt (by omega)) (hnb _ (by omega)), ← eh]
          have n4 : (pa (h2.next + 1) = pa h2.next) = False := by rw [pa_eq]; exact eq_false (by omega)
          rw [get_new, next_set, next_new]
          simp only [n4, if_false]
          rw [get_set, if_pos rfl]
        have k3 : h4.get (pa (h.next + 1)) = .ofL [.int .i64 0, .nilslice] 0 false := by
          rw [a3.get _ (old_lt (by omega)) (hnb' _ (by omega)), ← eh]
          have n4 : (pa (h2.next + 1) = pa (h.next + 1)) = False := by rw [pa_eq]; exact eq_false (by omega)
          rw [get_new, next_set, next_new]
          simp only [n4, if_false]
          rw [get_set]
          simp only [n1, if_false]
          rw [get_new]
          simp only [n1, if_false]
          exact k1
        obtain ⟨one3, cl3, gd3⟩ := a2.v.one
        simp +contextual only [eh, a1, k0, k1, k2, k3, n0, n1, one2, cl2, gd2, one3, cl3, gd3, one0, cl0, gd0, ↓wpA1, ↓wpA2, ↓wpA3, wpB1, wpB2, wpB3, wpB4, wpB5, wpB6, repeatV, RX.evs, spl, over, ones, Ex.ends, evR, oneOf, Option.isSome_some, Option.getD_some, if_true, if_false, true_and, and_true, List.getElem?_cons_zero, List.getElem?_cons_succ, List.length_cons, List.length_nil, List.drop_zero, List.drop_succ_cons, List.take_succ_cons, List.take_zero, List.cons_append, List.nil_append, Option.some.injEq, exists_eq_left', top, List.cons.injEq, ↓reduceIte, Nat.reduceEqDiff, Nat.reduceLeDiff, Nat.reduceAdd, Nat.reduceSub, Nat.reduceMul, reduceCtorEq, Nat.succ_ne_zero, imp_T, imp_F, List.getElem?_nil, Int.reduceEq, Int.reduceLT, Int.reduceLE, Int.reduceNeg, Int.reduceAdd, Int.reduceSub, decide_true, decide_false, eq_self, not_true_eq_false, not_false_eq_true, ite_true, ite_false]
        have hx4 : Ext h1 h4 := (hx3.trans hxx).mod_new a3 fun b hb' => ho.base hb'
        refine ⟨?_, ((hx2.trans hx4).set (by omega) _).set (by omega) _⟩
        have hf2 := hf
        rw [f1, Bool.true_and] at hf2
        unfold Told
        rw [hc1, hf2, Bool.and_self, if_pos rfl, if_pos (by simp [enterT, hb])]
        simp only [enterT, hb, if_false]
        refine ⟨v3, rfl, ?_⟩
        have e : encs (fs ++ [⟨op, ht, res, false⟩]) = encs fs ++ [.int .i64 op, .int .i64 ht, .int .i64 res, .bool false] := by simp [encs, Fm.enc]
        rw [e, List.length_append]
        refine (a2.mono (by omega)).mod (((Mod.refl (fun b => b = pa h2.next ∨ b = pa (h.next + 1)) h4).set (fun _ => .inl rfl) _).set (fun _ => .inr rfl) _) fun b hb' q => ?_
        have c1 := a2.base hb'
        rcases q with q | q
        · rcases a4 b hb' with q' | q'
          · exact hnb _ (Nat.le_refl _) (q ▸ q')
          · rw [q, unPa_pa] at q'
            omega
        · rw [q, unPa_pa] at c1
          omega
    · have fin : Told h.next (enterT op res) (isList op && decide (0 ≤ res) && decide (res ≤ 1)) ht fs (V.tuple [V.agg [V.int IntKind.i64 0, V.nilslice], V.int IntKind.i64 2]) (h1.set (pa (h.next + 1)) (Blk.ofL [V.int IntKind.i64 0, V.nilslice] 0 false)) ∧
          Ext h (h1.set (pa (h.next + 1)) (Blk.ofL [V.int IntKind.i64 0, V.nilslice] 0 false)) := by
        refine ⟨?_, hx2.set (by omega) _⟩
        unfold Told
        rw [if_neg (by simp [hf])]
        rfl
      cases q1 : isList op with
      | false =>
        rw [q1] at fin
        simp +contextual only [q1, hlen, hc1, g0, g1, one0, cl0, gd0, ↓wpA1, ↓wpA2, ↓wpA3, wpB1, wpB2, wpB3, wpB4, wpB5, wpB6, repeatV, RX.evs, spl, over, ones, Ex.ends, evR, oneOf, Option.isSome_some, Option.getD_some, if_true, if_false, true_and, and_true, List.getElem?_cons_zero, List.getElem?_cons_succ, List.length_cons, List.length_nil, List.drop_zero, List.drop_succ_cons, List.take_succ_cons, List.take_zero, List.cons_append, List.nil_append, Option.some.injEq, exists_eq_left', top, List.cons.injEq, ↓reduceIte, Nat.reduceEqDiff, Nat.reduceLeDiff, Nat.reduceAdd, Nat.reduceSub, Nat.reduceMul, reduceCtorEq, Nat.succ_ne_zero, imp_T, imp_F, List.getElem?_nil, Int.reduceEq, Int.reduceLT, Int.reduceLE, Int.reduceNeg, Int.reduceAdd, Int.reduceSub, decide_true, decide_false, eq_self, not_true_eq_false, not_false_eq_true, ite_true, ite_false]
        exact fin
      | true =>
        have hf' : (decide (res < 0) || decide (1 < res)) = true := by
          rw [q1] at hf
          simp at hf ⊢
          omega
        rw [q1] at fin
        simp +contextual only [q1, hf', hlen, hc1, g0, g1, one0, cl0, gd0, ↓wpA1, ↓wpA2, ↓wpA3, wpB1, wpB2, wpB3, wpB4, wpB5, wpB6, repeatV, RX.evs, spl, over, ones, Ex.ends, evR, oneOf, Option.isSome_some, Option.getD_some, if_true, if_false, true_and, and_true, List.getElem?_cons_zero, List.getElem?_cons_succ, List.length_cons, List.length_nil, List.drop_zero, List.drop_succ_cons, List.take_succ_cons, List.take_zero, List.cons_append, List.nil_append, Option.some.injEq, exists_eq_left', top, List.cons.injEq, ↓reduceIte, Nat.reduceEqDiff, Nat.reduceLeDiff, Nat.reduceAdd, Nat.reduceSub, Nat.reduceMul, reduceCtorEq, Nat.succ_ne_zero, imp_T, imp_F, List.getElem?_nil, Int.reduceEq, Int.reduceLT, Int.reduceLE, Int.reduceNeg, Int.reduceAdd, Int.reduceSub, decide_true, decide_false, eq_self, not_true_eq_false, not_false_eq_true, ite_true, ite_false]
        exact fin
end Go.Proofs.Ytkjifhoiiciblaa

namespace Go.Proofs.Ytkjifhoiiciblaa
open Go Am
set_option linter.unusedSimpArgs false
set_option linter.unusedVariables false

theorem ref_dead (ht : Int) (v : V) (fs : List Fm) (h : Heap) (hv : SlV h 4 v fs.length (encs fs)) :
    Ctr Try.prog 17 [.agg [.int .i64 ht, v]] h fun x h' => Told h.next deadT true ht fs x h' ∧ Ext h h' := by
  obtain ⟨one0, cl0, gd0⟩ := hv.one
  refine c17_ctr rfl (wpK_of ?_)
  unfold c17
  simp +contextual only [one0, cl0, gd0, ↓wpA1, ↓wpA2, ↓wpA3, wpB1, wpB2, wpB3, wpB4, wpB5, wpB6, repeatV, RX.evs, spl, over, ones, Ex.ends, evR, oneOf, Option.isSome_some, Option.getD_some, if_true, if_false, true_and, and_true, List.getElem?_cons_zero, List.getElem?_cons_succ, List.length_cons, List.length_nil, List.drop_zero, List.drop_succ_cons, List.take_succ_cons, List.take_zero, List.cons_append, List.nil_append, Option.some.injEq, exists_eq_left', top, List.cons.injEq, ↓reduceIte, Nat.reduceEqDiff, Nat.reduceLeDiff, Nat.reduceAdd, Nat.reduceSub, Nat.reduceMul, reduceCtorEq, Nat.succ_ne_zero, imp_T, imp_F, List.getElem?_nil, Int.reduceEq, Int.reduceLT, Int.reduceLE, Int.reduceNeg, Int.reduceAdd, Int.reduceSub, decide_true, decide_false, eq_self, not_true_eq_false, not_false_eq_true, ite_true, ite_false]
  have hx : Ext h ((h.new (.ofL [.int .i64 ht, v] 0 false)).new (.ofL [.int .i64 0, .nilslice] 0 false)) := ((Ext.refl h).new _).new _
  refine callK_intro (refcheck_ctr ht v fs _ (hv.ext hx)) ?_
  rintro x h1 ⟨rfl, hx1⟩
  have g0 : h1.get (pa h.next) = .ofL [.int .i64 ht, v] 0 false := by
    rw [hx1.get _ (old_lt (by simp only [next_new]; omega))]
    simp only [↓wpA1, ↓wpA2, ↓wpA3, wpB1, wpB2, wpB3, wpB4, wpB5, wpB6, repeatV, RX.evs, spl, over, ones, Ex.ends, evR, oneOf, Option.isSome_some, Option.getD_some, if_true, if_false, true_and, and_true, List.getElem?_cons_zero, List.getElem?_cons_succ, List.length_cons, List.length_nil, List.drop_zero, List.drop_succ_cons, List.take_succ_cons, List.take_zero, List.cons_append, List.nil_append, Option.some.injEq, exists_eq_left', top, List.cons.injEq, ↓reduceIte, Nat.reduceEqDiff, Nat.reduceLeDiff, Nat.reduceAdd, Nat.reduceSub, Nat.reduceMul, reduceCtorEq, Nat.succ_ne_zero, imp_T, imp_F, List.getElem?_nil, Int.reduceEq, Int.reduceLT, Int.reduceLE, Int.reduceNeg, Int.reduceAdd, Int.reduceSub, decide_true, decide_false, eq_self, not_true_eq_false, not_false_eq_true, ite_true, ite_false]
  have g1 : h1.get (pa (h.next + 1)) = .ofL [.int .i64 0, .nilslice] 0 false := by
    rw [hx1.get _ (old_lt (by simp only [next_new]; omega))]
    simp only [↓wpA1, ↓wpA2, ↓wpA3, wpB1, wpB2, wpB3, wpB4, wpB5, wpB6, repeatV, RX.evs, spl, over, ones, Ex.ends, evR, oneOf, Option.isSome_some, Option.getD_some, if_true, if_false, true_and, and_true, List.getElem?_cons_zero, List.getElem?_cons_succ, List.length_cons, List.length_nil, List.drop_zero, List.drop_succ_cons, List.take_succ_cons, List.take_zero, List.cons_append, List.nil_append, Option.some.injEq, exists_eq_left', top, List.cons.injEq, ↓reduceIte, Nat.reduceEqDiff, Nat.reduceLeDiff, Nat.reduceAdd, Nat.reduceSub, Nat.reduceMul, reduceCtorEq, Nat.succ_ne_zero, imp_T, imp_F, List.getElem?_nil, Int.reduceEq, Int.reduceLT, Int.reduceLE, Int.reduceNeg, Int.reduceAdd, Int.reduceSub, decide_true, decide_false, eq_self, not_true_eq_false, not_false_eq_true, ite_true, ite_false]
  have hx2 := hx.trans hx1
  have nx1 : h.next + 2 ≤ h1.next := hx1.next
  cases hc1 : checkB ht fs with
  | false =>
    simp +contextual only [hc1, g0, g1, one0, cl0, gd0, ↓wpA1, ↓wpA2, ↓wpA3, wpB1, wpB2, wpB3, wpB4, wpB5, wpB6, repeatV, RX.evs, spl, over, ones, Ex.ends, evR, oneOf, Option.isSome_some, Option.getD_some, if_true, if_false, true_and, and_true, List.getElem?_cons_zero, List.getElem?_cons_succ, List.length_cons, List.length_nil, List.drop_zero, List.drop_succ_cons, List.take_succ_cons, List.take_zero, List.cons_append, List.nil_append, Option.some.injEq, exists_eq_left', top, List.cons.injEq, ↓reduceIte, Nat.reduceEqDiff, Nat.reduceLeDiff, Nat.reduceAdd, Nat.reduceSub, Nat.reduceMul, reduceCtorEq, Nat.succ_ne_zero, imp_T, imp_F, List.getElem?_nil, Int.reduceEq, Int.reduceLT, Int.reduceLE, Int.reduceNeg, Int.reduceAdd, Int.reduceSub, decide_true, decide_false, eq_self, not_true_eq_false, not_false_eq_true, ite_true, ite_false]
    refine ⟨?_, hx2.set (by omega) _⟩
    unfold Told
    rw [hc1, Bool.and_false]
    rfl
  | true =>
    obtain ⟨l1, l2, l3, l4⟩ := check_len hc1
    obtain ⟨b1, b2, b3, b4⟩ := check_last hc1
    simp +contextual only [hc1, g0, g1, one0, cl0, gd0, ↓wpA1, ↓wpA2, ↓wpA3, wpB1, wpB2, wpB3, wpB4, wpB5, wpB6, repeatV, RX.evs, spl, over, ones, Ex.ends, evR, oneOf, Option.isSome_some, Option.getD_some, if_true, if_false, true_and, and_true, List.getElem?_cons_zero, List.getElem?_cons_succ, List.length_cons, List.length_nil, List.drop_zero, List.drop_succ_cons, List.take_succ_cons, List.take_zero, List.cons_append, List.nil_append, Option.some.injEq, exists_eq_left', top, List.cons.injEq, ↓reduceIte, Nat.reduceEqDiff, Nat.reduceLeDiff, Nat.reduceAdd, Nat.reduceSub, Nat.reduceMul, reduceCtorEq, Nat.succ_ne_zero, imp_T, imp_F, List.getElem?_nil, Int.reduceEq, Int.reduceLT, Int.reduceLE, Int.reduceNeg, Int.reduceAdd, Int.reduceSub, decide_true, decide_false, eq_self, not_true_eq_false, not_false_eq_true, ite_true, ite_false]
    refine callK_intro (ref_last ht v fs h1 (hv.ext hx2) l1 (by omega)) ?_
    rintro y h2 ⟨rfl, hx3⟩
    have k0 : h2.get (pa h.next) = .ofL [.int .i64 ht, v] 0 false := by
      rw [hx3.get _ (old_lt (by omega)), g0]
    have k1 : h2.get (pa (h.next + 1)) = .ofL [.int .i64 0, .nilslice] 0 false := by
      rw [hx3.get _ (old_lt (by omega)), g1]
    have nx2 : h1.next ≤ h2.next := hx3.next
    have n0 : (pa h2.next = pa h.next) = False := by rw [pa_eq]; exact eq_false (by omega)
    have n1 : (pa h2.next = pa (h.next + 1)) = False := by rw [pa_eq]; exact eq_false (by omega)
    have hxn : Ext h1 ((h2.new (.ofL [.int .i64 0, .int .i64 0, .int .i64 0, .bool false] 0 false)).set (pa h2.next) (.ofL (lastF fs).enc 0 false)) := ((hx3.new _).set (by omega) _)
    simp +contextual only [k0, k1, n0, n1, one0, cl0, gd0, Fm.enc, ↓wpA1, ↓wpA2, ↓wpA3, wpB1, wpB2, wpB3, wpB4, wpB5, wpB6, repeatV, RX.evs, spl, over, ones, Ex.ends, evR, oneOf, Option.isSome_some, Option.getD_some, if_true, if_false, true_and, and_true, List.getElem?_cons_zero, List.getElem?_cons_succ, List.length_cons, List.length_nil, List.drop_zero, List.drop_succ_cons, List.take_succ_cons, List.take_zero, List.cons_append, List.nil_append, Option.some.injEq, exists_eq_left', top, List.cons.injEq, ↓reduceIte, Nat.reduceEqDiff, Nat.reduceLeDiff, Nat.reduceAdd, Nat.reduceSub, Nat.reduceMul, reduceCtorEq, Nat.succ_ne_zero, imp_T, imp_F, List.getElem?_nil, Int.reduceEq, Int.reduceLT, Int.reduceLE, Int.reduceNeg, Int.reduceAdd, Int.reduceSub, decide_true, decide_false, eq_self, not_true_eq_false, not_false_eq_true, ite_true, ite_false]
    refine callK_intro (ref_with ht _ v v fs _ one0 cl0 gd0 (hv.ext (hx2.trans hxn)) (by omega)) ?_
    rintro y h3 ⟨⟨v2, rfl, ho⟩, hx4⟩
    have hx5 := hxn.trans hx4
    have nx3 : h2.next + 1 ≤ h3.next := hx4.next
    replace ho : SlO (h2.next + 1) h3 4 v2 fs.length (encs fs) := ho
    obtain ⟨one2, cl2, gd2⟩ := ho.v.one
    have f2 : h3.get (pa h2.next) = .ofL [.int .i64 (lastF fs).op, .int .i64 (lastF fs).base, .int .i64 (lastF fs).res, .bool (lastF fs).dead] 0 false := by
      rw [hx4.get _ (old_lt (by simp only [next_new, next_set]; omega))]
      simp only [↓wpA1, ↓wpA2, ↓wpA3, wpB1, wpB2, wpB3, wpB4, wpB5, wpB6, repeatV, RX.evs, spl, over, ones, Ex.ends, evR, oneOf, Option.isSome_some, Option.getD_some, if_true, if_false, true_and, and_true, List.getElem?_cons_zero, List.getElem?_cons_succ, List.length_cons, List.length_nil, List.drop_zero, List.drop_succ_cons, List.take_succ_cons, List.take_zero, List.cons_append, List.nil_append, Option.some.injEq, exists_eq_left', top, List.cons.injEq, ↓reduceIte, Nat.reduceEqDiff, Nat.reduceLeDiff, Nat.reduceAdd, Nat.reduceSub, Nat.reduceMul, reduceCtorEq, Nat.succ_ne_zero, imp_T, imp_F, List.getElem?_nil, Int.reduceEq, Int.reduceLT, Int.reduceLE, Int.reduceNeg, Int.reduceAdd, Int.reduceSub, decide_true, decide_false, eq_self, not_true_eq_false, not_false_eq_true, ite_true, ite_false]
    have k2 : h3.get (pa (h.next + 1)) = .ofL [.int .i64 0, .nilslice] 0 false := by
      rw [hx4.get _ (old_lt (by simp only [next_new, next_set]; omega))]
      simp only [k1, n1, ↓wpA1, ↓wpA2, ↓wpA3, wpB1, wpB2, wpB3, wpB4, wpB5, wpB6, repeatV, RX.evs, spl, over, ones, Ex.ends, evR, oneOf, Option.isSome_some, Option.getD_some, if_true, if_false, true_and, and_true, List.getElem?_cons_zero, List.getElem?_cons_succ, List.length_cons, List.length_nil, List.drop_zero, List.drop_succ_cons, List.take_succ_cons, List.take_zero, List.cons_append, List.nil_append, Option.some.injEq, exists_eq_left', top, List.cons.injEq, ↓reduceIte, Nat.reduceEqDiff, Nat.reduceLeDiff, Nat.reduceAdd, Nat.reduceSub, Nat.reduceMul, reduceCtorEq, Nat.succ_ne_zero, imp_T, imp_F, List.getElem?_nil, Int.reduceEq, Int.reduceLT, Int.reduceLE, Int.reduceNeg, Int.reduceAdd, Int.reduceSub, decide_true, decide_false, eq_self, not_true_eq_false, not_false_eq_true, ite_true, ite_false]
    have n2 : (pa h3.next = pa h2.next) = False := by rw [pa_eq]; exact eq_false (by omega)
    have n3 : (pa h3.next = pa (h.next + 1)) = False := by rw [pa_eq]; exact eq_false (by omega)
    have n4 : (pa h2.next = pa h3.next) = False := by rw [pa_eq]; exact eq_false (by omega)
    generalize eh : ((h3.new (.ofL [.int .i64 0, .nilslice] 0 false)).set (pa h3.next) (.ofL [.int .i64 (lastF fs).base, v2] 0 false)).set (pa h2.next) (.ofL [.int .i64 (lastF fs).op, .int .i64 (lastF fs).base, .int .i64 (lastF fs).res, .bool true] 0 false) = h4
    have hxx : Ext h1 h4 := by rw [← eh]; exact (((hx5.new _).set (by omega) _).set (by omega) _)
    have e4 : h4.next = h3.next + 1 := by rw [← eh]; rfl
    have hmm : Mod (fun b => b = pa h2.next) h3 h4 := by
      rw [← eh]
      exact ((((Ext.refl h3).new _).set (Nat.le_refl _) _).mod (fun b => b = pa h2.next)).set (fun _ => rfl) _
    have hnv : ∀ i, h3.next ≤ i ∨ i ≤ h2.next → ¬ v2.blk (pa i) := fun i hi q => by
      have c1 := ho.base q
      have c2 := ho.v.old q
      unfold Old at c2
      rw [unPa_pa] at c1 c2
      omega
    have ho4 := ho.mod hmm fun b hb q => hnv h2.next (.inr (Nat.le_refl _)) (q ▸ hb)
    have hlen := ho4.v.len
    have hidx : IntKind.i64.wrap ((fs.length : Int) - 1) = ((fs.length - 1 : Nat) : Int) := by rw [wrap_i64 (by omega) (by omega)]; omega
    obtain ⟨b, off, h6, p1, p2, p3, p4, p5⟩ := ho4.put (k := .i64) (i := fs.length - 1) (y := .agg [.int .i64 (lastF fs).op, .int .i64 (lastF fs).base, .int .i64 (lastF fs).res, .bool true]) (by omega) rfl rfl
    rw [store_ptr] at p3
    have m4 : h4.get (pa h2.next) = .ofL [.int .i64 (lastF fs).op, .int .i64 (lastF fs).base, .int .i64 (lastF fs).res, .bool true] 0 false := by rw [← eh, get_set, if_pos rfl]
    have m5 : h4.get (pa h3.next) = .ofL [.int .i64 (lastF fs).base, v2] 0 false := by
      rw [← eh, get_set]
      simp only [n4, if_false]
      rw [get_set, if_pos rfl]
    have m6 : h6.get (pa h3.next) = .ofL [.int .i64 (lastF fs).base, v2] 0 false := by
      rw [p5.get _ (old_lt (by omega)) (hnv _ (.inl (Nat.le_refl _))), m5]
    have m7 : h6.get (pa (h.next + 1)) = .ofL [.int .i64 0, .nilslice] 0 false := by
      rw [p5.get _ (old_lt (by omega)) (hnv _ (.inr (by omega))), hmm.get _ (old_lt (by omega)) (fun q => by rw [pa_eq] at q; omega), k2]
    simp +contextual only [f2, k2, n2, n3, n4, eh, hlen, hidx, p1, p3, m4, m5, m6, m7, one2, cl2, gd2, ↓wpA1, ↓wpA2, ↓wpA3, wpB1, wpB2, wpB3, wpB4, wpB5, wpB6, repeatV, RX.evs, spl, over, ones, Ex.ends, evR, oneOf, Option.isSome_some, Option.getD_some, if_true, if_false, true_and, and_true, List.getElem?_cons_zero, List.getElem?_cons_succ, List.length_cons, List.length_nil, List.drop_zero, List.drop_succ_cons, List.take_succ_cons, List.take_zero, List.cons_append, List.nil_append, Option.some.injEq, exists_eq_left', top, List.cons.injEq, ↓reduceIte, Nat.reduceEqDiff, Nat.reduceLeDiff, Nat.reduceAdd, Nat.reduceSub, Nat.reduceMul, reduceCtorEq, Nat.succ_ne_zero, imp_T, imp_F, List.getElem?_nil, Int.reduceEq, Int.reduceLT, Int.reduceLE, Int.reduceNeg, Int.reduceAdd, Int.reduceSub, decide_true, decide_false, eq_self, not_true_eq_false, not_false_eq_true, ite_true, ite_false]
    have hx6 : Ext h1 h6 := hxx.mod_new p5 fun b hb => by have := ho.base hb; omega
    refine ⟨?_, (hx2.trans hx6).set (by omega) _⟩
    unfold Told
    rw [hc1, Bool.and_self, if_pos rfl, if_pos (by simp [deadT])]
    simp only [deadT]
    refine ⟨v2, rfl, ?_⟩
    rw [encs_put _ _ _ (by omega), List.length_set]
    refine (p4.mono (by omega)).mod ((Mod.refl (fun b => b = pa (h.next + 1)) h6).set (fun _ => rfl) _) fun b hb' q => ?_
    exact hnv (h.next + 1) (.inr (by omega)) (q ▸ hb')
end Go.Proofs.Ytkjifhoiiciblaa

namespace Go.Proofs.Ytkjifhoiiciblaa
open Go Am
set_option linter.unusedSimpArgs false
set_option linter.unusedVariables false

theorem ref_leave (ht : Int) (v : V) (fs : List Fm) (h : Heap) (hv : SlV h 4 v fs.length (encs fs)) :
    Ctr Try.prog 21 [.agg [.int .i64 ht, v]] h fun x h' => Told h.next leaveT true ht fs x h' ∧ Ext h h' := by
  obtain ⟨one0, cl0, gd0⟩ := hv.one
  refine c21_ctr rfl (wpK_of ?_)
  unfold c21
  simp +contextual only [one0, cl0, gd0, ↓wpA1, ↓wpA2, ↓wpA3, wpB1, wpB2, wpB3, wpB4, wpB5, wpB6, repeatV, RX.evs, spl, over, ones, Ex.ends, evR, oneOf, Option.isSome_some, Option.getD_some, if_true, if_false, true_and, and_true, List.getElem?_cons_zero, List.getElem?_cons_succ, List.length_cons, List.length_nil, List.drop_zero, List.drop_succ_cons, List.take_succ_cons, List.take_zero, List.cons_append, List.nil_append, Option.some.injEq, exists_eq_left', top, List.cons.injEq, ↓reduceIte, Nat.reduceEqDiff, Nat.reduceLeDiff, Nat.reduceAdd, Nat.reduceSub, Nat.reduceMul, reduceCtorEq, Nat.succ_ne_zero, imp_T, imp_F, List.getElem?_nil, Int.reduceEq, Int.reduceLT, Int.reduceLE, Int.reduceNeg, Int.reduceAdd, Int.reduceSub, decide_true, decide_false, eq_self, not_true_eq_false, not_false_eq_true, ite_true, ite_false]
  have hx : Ext h ((h.new (.ofL [.int .i64 ht, v] 0 false)).new (.ofL [.int .i64 0, .nilslice] 0 false)) := ((Ext.refl h).new _).new _
  refine callK_intro (refcheck_ctr ht v fs _ (hv.ext hx)) ?_
  rintro x h1 ⟨rfl, hx1⟩
  have g0 : h1.get (pa h.next) = .ofL [.int .i64 ht, v] 0 false := by
    rw [hx1.get _ (old_lt (by simp only [next_new]; omega))]
    simp only [↓wpA1, ↓wpA2, ↓wpA3, wpB1, wpB2, wpB3, wpB4, wpB5, wpB6, repeatV, RX.evs, spl, over, ones, Ex.ends, evR, oneOf, Option.isSome_some, Option.getD_some, if_true, if_false, true_and, and_true, List.getElem?_cons_zero, List.getElem?_cons_succ, List.length_cons, List.length_nil, List.drop_zero, List.drop_succ_cons, List.take_succ_cons, List.take_zero, List.cons_append, List.nil_append, Option.some.injEq, exists_eq_left', top, List.cons.injEq, ↓reduceIte, Nat.reduceEqDiff, Nat.reduceLeDiff, Nat.reduceAdd, Nat.reduceSub, Nat.reduceMul, reduceCtorEq, Nat.succ_ne_zero, imp_T, imp_F, List.getElem?_nil, Int.reduceEq, Int.reduceLT, Int.reduceLE, Int.reduceNeg, Int.reduceAdd, Int.reduceSub, decide_true, decide_false, eq_self, not_true_eq_false, not_false_eq_true, ite_true, ite_false]
  have g1 : h1.get (pa (h.next + 1)) = .ofL [.int .i64 0, .nilslice] 0 false := by
    rw [hx1.get _ (old_lt (by simp only [next_new]; omega))]
    simp only [↓wpA1, ↓wpA2, ↓wpA3, wpB1, wpB2, wpB3, wpB4, wpB5, wpB6, repeatV, RX.evs, spl, over, ones, Ex.ends, evR, oneOf, Option.isSome_some, Option.getD_some, if_true, if_false, true_and, and_true, List.getElem?_cons_zero, List.getElem?_cons_succ, List.length_cons, List.length_nil, List.drop_zero, List.drop_succ_cons, List.take_succ_cons, List.take_zero, List.cons_append, List.nil_append, Option.some.injEq, exists_eq_left', top, List.cons.injEq, ↓reduceIte, Nat.reduceEqDiff, Nat.reduceLeDiff, Nat.reduceAdd, Nat.reduceSub, Nat.reduceMul, reduceCtorEq, Nat.succ_ne_zero, imp_T, imp_F, List.getElem?_nil, Int.reduceEq, Int.reduceLT, Int.reduceLE, Int.reduceNeg, Int.reduceAdd, Int.reduceSub, decide_true, decide_false, eq_self, not_true_eq_false, not_false_eq_true, ite_true, ite_false]
  have hx2 := hx.trans hx1
  have nx1 : h.next + 2 ≤ h1.next := hx1.next
  cases hc1 : checkB ht fs with
  | false =>
    simp +contextual only [hc1, g0, g1, one0, cl0, gd0, ↓wpA1, ↓wpA2, ↓wpA3, wpB1, wpB2, wpB3, wpB4, wpB5, wpB6, repeatV, RX.evs, spl, over, ones, Ex.ends, evR, oneOf, Option.isSome_some, Option.getD_some, if_true, if_false, true_and, and_true, List.getElem?_cons_zero, List.getElem?_cons_succ, List.length_cons, List.length_nil, List.drop_zero, List.drop_succ_cons, List.take_succ_cons, List.take_zero, List.cons_append, List.nil_append, Option.some.injEq, exists_eq_left', top, List.cons.injEq, ↓reduceIte, Nat.reduceEqDiff, Nat.reduceLeDiff, Nat.reduceAdd, Nat.reduceSub, Nat.reduceMul, reduceCtorEq, Nat.succ_ne_zero, imp_T, imp_F, List.getElem?_nil, Int.reduceEq, Int.reduceLT, Int.reduceLE, Int.reduceNeg, Int.reduceAdd, Int.reduceSub, decide_true, decide_false, eq_self, not_true_eq_false, not_false_eq_true, ite_true, ite_false]
    refine ⟨?_, hx2.set (by omega) _⟩
    unfold Told
    rw [hc1, Bool.and_false]
    rfl
  | true =>
    obtain ⟨l1, l2, l3, l4⟩ := check_len hc1
    obtain ⟨b1, b2, b3, b4⟩ := check_last hc1
    simp +contextual only [hc1, g0, g1, one0, cl0, gd0, ↓wpA1, ↓wpA2, ↓wpA3, wpB1, wpB2, wpB3, wpB4, wpB5, wpB6, repeatV, RX.evs, spl, over, ones, Ex.ends, evR, oneOf, Option.isSome_some, Option.getD_some, if_true, if_false, true_and, and_true, List.getElem?_cons_zero, List.getElem?_cons_succ, List.length_cons, List.length_nil, List.drop_zero, List.drop_succ_cons, List.take_succ_cons, List.take_zero, List.cons_append, List.nil_append, Option.some.injEq, exists_eq_left', top, List.cons.injEq, ↓reduceIte, Nat.reduceEqDiff, Nat.reduceLeDiff, Nat.reduceAdd, Nat.reduceSub, Nat.reduceMul, reduceCtorEq, Nat.succ_ne_zero, imp_T, imp_F, List.getElem?_nil, Int.reduceEq, Int.reduceLT, Int.reduceLE, Int.reduceNeg, Int.reduceAdd, Int.reduceSub, decide_true, decide_false, eq_self, not_true_eq_false, not_false_eq_true, ite_true, ite_false]
    refine callK_intro (ref_last ht v fs h1 (hv.ext hx2) l1 (by omega)) ?_
    rintro y h2 ⟨rfl, hx3⟩
    have k0 : h2.get (pa h.next) = .ofL [.int .i64 ht, v] 0 false := by
      rw [hx3.get _ (old_lt (by omega)), g0]
    have k1 : h2.get (pa (h.next + 1)) = .ofL [.int .i64 0, .nilslice] 0 false := by
      rw [hx3.get _ (old_lt (by omega)), g1]
    have nx2 : h1.next ≤ h2.next := hx3.next
    have n0 : (pa h2.next = pa h.next) = False := by rw [pa_eq]; exact eq_false (by omega)
    have n1 : (pa h2.next = pa (h.next + 1)) = False := by rw [pa_eq]; exact eq_false (by omega)
    have hxn : Ext h1 ((h2.new (.ofL [.int .i64 0, .int .i64 0, .int .i64 0, .bool false] 0 false)).set (pa h2.next) (.ofL (lastF fs).enc 0 false)) := ((hx3.new _).set (by omega) _)
    simp +contextual only [k0, k1, n0, n1, one0, cl0, gd0, Fm.enc, ↓wpA1, ↓wpA2, ↓wpA3, wpB1, wpB2, wpB3, wpB4, wpB5, wpB6, repeatV, RX.evs, spl, over, ones, Ex.ends, evR, oneOf, Option.isSome_some, Option.getD_some, if_true, if_false, true_and, and_true, List.getElem?_cons_zero, List.getElem?_cons_succ, List.length_cons, List.length_nil, List.drop_zero, List.drop_succ_cons, List.take_succ_cons, List.take_zero, List.cons_append, List.nil_append, Option.some.injEq, exists_eq_left', top, List.cons.injEq, ↓reduceIte, Nat.reduceEqDiff, Nat.reduceLeDiff, Nat.reduceAdd, Nat.reduceSub, Nat.reduceMul, reduceCtorEq, Nat.succ_ne_zero, imp_T, imp_F, List.getElem?_nil, Int.reduceEq, Int.reduceLT, Int.reduceLE, Int.reduceNeg, Int.reduceAdd, Int.reduceSub, decide_true, decide_false, eq_self, not_true_eq_false, not_false_eq_true, ite_true, ite_false]
    refine callK_intro (ref_pop (lastF fs).res ht v fs _ (hv.ext (hx2.trans hxn))) ?_
    rintro y h3 ⟨hT, hx4⟩
    have hx5 := hxn.trans hx4
    have nx3 : h2.next + 1 ≤ h3.next := hx4.next
    have f2 : h3.get (pa h2.next) = .ofL [.int .i64 (lastF fs).op, .int .i64 (lastF fs).base, .int .i64 (lastF fs).res, .bool (lastF fs).dead] 0 false := by
      rw [hx4.get _ (old_lt (by simp only [next_new, next_set]; omega))]
      simp only [↓wpA1, ↓wpA2, ↓wpA3, wpB1, wpB2, wpB3, wpB4, wpB5, wpB6, repeatV, RX.evs, spl, over, ones, Ex.ends, evR, oneOf, Option.isSome_some, Option.getD_some, if_true, if_false, true_and, and_true, List.getElem?_cons_zero, List.getElem?_cons_succ, List.length_cons, List.length_nil, List.drop_zero, List.drop_succ_cons, List.take_succ_cons, List.take_zero, List.cons_append, List.nil_append, Option.some.injEq, exists_eq_left', top, List.cons.injEq, ↓reduceIte, Nat.reduceEqDiff, Nat.reduceLeDiff, Nat.reduceAdd, Nat.reduceSub, Nat.reduceMul, reduceCtorEq, Nat.succ_ne_zero, imp_T, imp_F, List.getElem?_nil, Int.reduceEq, Int.reduceLT, Int.reduceLE, Int.reduceNeg, Int.reduceAdd, Int.reduceSub, decide_true, decide_false, eq_self, not_true_eq_false, not_false_eq_true, ite_true, ite_false]
    have k2 : h3.get (pa (h.next + 1)) = .ofL [.int .i64 0, .nilslice] 0 false := by
      rw [hx4.get _ (old_lt (by simp only [next_new, next_set]; omega))]
      simp only [k1, n1, ↓wpA1, ↓wpA2, ↓wpA3, wpB1, wpB2, wpB3, wpB4, wpB5, wpB6, repeatV, RX.evs, spl, over, ones, Ex.ends, evR, oneOf, Option.isSome_some, Option.getD_some, if_true, if_false, true_and, and_true, List.getElem?_cons_zero, List.getElem?_cons_succ, List.length_cons, List.length_nil, List.drop_zero, List.drop_succ_cons, List.take_succ_cons, List.take_zero, List.cons_append, List.nil_append, Option.some.injEq, exists_eq_left', top, List.cons.injEq, ↓reduceIte, Nat.reduceEqDiff, Nat.reduceLeDiff, Nat.reduceAdd, Nat.reduceSub, Nat.reduceMul, reduceCtorEq, Nat.succ_ne_zero, imp_T, imp_F, List.getElem?_nil, Int.reduceEq, Int.reduceLT, Int.reduceLE, Int.reduceNeg, Int.reduceAdd, Int.reduceSub, decide_true, decide_false, eq_self, not_true_eq_false, not_false_eq_true, ite_true, ite_false]
    have n2 : (pa h3.next = pa h2.next) = False := by rw [pa_eq]; exact eq_false (by omega)
    have n3 : (pa h3.next = pa (h.next + 1)) = False := by rw [pa_eq]; exact eq_false (by omega)
    have n4 : (pa h2.next = pa h3.next) = False := by rw [pa_eq]; exact eq_false (by omega)
    unfold Told at hT
    rw [hc1, decide_eq_true b3, Bool.and_self, if_pos rfl] at hT
    by_cases hcc : ht - (lastF fs).base < (lastF fs).res ∧ (lastF fs).dead = false
    · rw [if_neg (by simp [popT, hcc])] at hT
      have e : leaveT ht fs = (200, 0, []) := by simp [leaveT, popT, hcc]
      have e1 : (popT (lastF fs).res ht fs).1 = 200 := by simp [popT, hcc]
      subst hT
      simp +contextual only [zeroS, e1, f2, k2, n2, n3, n4, ↓wpA1, ↓wpA2, ↓wpA3, wpB1, wpB2, wpB3, wpB4, wpB5, wpB6, repeatV, RX.evs, spl, over, ones, Ex.ends, evR, oneOf, Option.isSome_some, Option.getD_some, if_true, if_false, true_and, and_true, List.getElem?_cons_zero, List.getElem?_cons_succ, List.length_cons, List.length_nil, List.drop_zero, List.drop_succ_cons, List.take_succ_cons, List.take_zero, List.cons_append, List.nil_append, Option.some.injEq, exists_eq_left', top, List.cons.injEq, ↓reduceIte, Nat.reduceEqDiff, Nat.reduceLeDiff, Nat.reduceAdd, Nat.reduceSub, Nat.reduceMul, reduceCtorEq, Nat.succ_ne_zero, imp_T, imp_F, List.getElem?_nil, Int.reduceEq, Int.reduceLT, Int.reduceLE, Int.reduceNeg, Int.reduceAdd, Int.reduceSub, decide_true, decide_false, eq_self, not_true_eq_false, not_false_eq_true, ite_true, ite_false]
      refine ⟨?_, ((hx2.trans hx5).new _ |>.set (by omega) _).set (by omega) _⟩
      unfold Told
      rw [hc1, Bool.and_self, if_pos rfl, e]
      rfl
    · rw [if_pos (by simp only [popT, if_neg hcc])] at hT
      obtain ⟨v2, rfl, ho⟩ := hT
      generalize hh1 : (ht - (if ht - (lastF fs).base < (lastF fs).res then ht - (lastF fs).base else (lastF fs).res)) = ht1
      have hp : popT (lastF fs).res ht fs = (0, ht1, fs) := by simp only [popT, if_neg hcc, hh1]
      have r1 : (lastF fs).base ≤ ht1 ∧ ht1 ≤ ht := by
        rw [← hh1]
        split <;> omega
      rw [hp] at ho ⊢
      simp only at ho ⊢
      replace ho : SlO (h2.next + 1) h3 4 v2 fs.length (encs fs) := ho
      obtain ⟨one2, cl2, gd2⟩ := ho.v.one
      by_cases hlt : (lastF fs).base < ht1
      · simp +contextual only [hlt, f2, k2, n2, n3, n4, one2, cl2, gd2, ↓wpA1, ↓wpA2, ↓wpA3, wpB1, wpB2, wpB3, wpB4, wpB5, wpB6, repeatV, RX.evs, spl, over, ones, Ex.ends, evR, oneOf, Option.isSome_some, Option.getD_some, if_true, if_false, true_and, and_true, List.getElem?_cons_zero, List.getElem?_cons_succ, List.length_cons, List.length_nil, List.drop_zero, List.drop_succ_cons, List.take_succ_cons, List.take_zero, List.cons_append, List.nil_append, Option.some.injEq, exists_eq_left', top, List.cons.injEq, ↓reduceIte, Nat.reduceEqDiff, Nat.reduceLeDiff, Nat.reduceAdd, Nat.reduceSub, Nat.reduceMul, reduceCtorEq, Nat.succ_ne_zero, imp_T, imp_F, List.getElem?_nil, Int.reduceEq, Int.reduceLT, Int.reduceLE, Int.reduceNeg, Int.reduceAdd, Int.reduceSub, decide_true, decide_false, eq_self, not_true_eq_false, not_false_eq_true, ite_true, ite_false]
        have e : leaveT ht fs = (201, 0, []) := by simp [leaveT, hp, hlt]
        refine ⟨?_, ((hx2.trans hx5).new _ |>.set (by omega) _).set (by omega) _⟩
        unfold Told
        rw [hc1, Bool.and_self, if_pos rfl, e]
        rfl
      · have hidx : IntKind.i64.wrap ((fs.length : Int) - 1) = ((fs.length - 1 : Nat) : Int) := by rw [wrap_i64 (by omega) (by omega)]; omega
        have hlen := ho.v.len
        obtain ⟨v3, c1, c2, c3⟩ := ho.cut (k := .i64) (m := fs.length - 1) (by omega) l1
        obtain ⟨one3, cl3, gd3⟩ := c2.v.one
        have w2 : IntKind.i64.wrap ((lastF fs).base + (lastF fs).res) = (lastF fs).base + (lastF fs).res := wrap_i64 (by omega) (by omega)
        have n5 : (h3.next = h2.next) = False := eq_false (by omega)
        simp +contextual only [n5, hlt, hlen, hidx, c1, w2, f2, k2, n2, n3, n4, one2, cl2, gd2, one3, cl3, gd3, ↓wpA1, ↓wpA2, ↓wpA3, wpB1, wpB2, wpB3, wpB4, wpB5, wpB6, repeatV, RX.evs, spl, over, ones, Ex.ends, evR, oneOf, Option.isSome_some, Option.getD_some, if_true, if_false, true_and, and_true, List.getElem?_cons_zero, List.getElem?_cons_succ, List.length_cons, List.length_nil, List.drop_zero, List.drop_succ_cons, List.take_succ_cons, List.take_zero, List.cons_append, List.nil_append, Option.some.injEq, exists_eq_left', top, List.cons.injEq, ↓reduceIte, Nat.reduceEqDiff, Nat.reduceLeDiff, Nat.reduceAdd, Nat.reduceSub, Nat.reduceMul, reduceCtorEq, Nat.succ_ne_zero, imp_T, imp_F, List.getElem?_nil, Int.reduceEq, Int.reduceLT, Int.reduceLE, Int.reduceNeg, Int.reduceAdd, Int.reduceSub, decide_true, decide_false, eq_self, not_true_eq_false, not_false_eq_true, ite_true, ite_false]
        have hxa : Ext h3 ((h3.new (.ofL [.int .i64 0, .nilslice] 0 false)).set (pa h3.next) (.ofL [.int .i64 ht1, v2] 0 false)) := ((Ext.refl h3).new _).set (by omega) _
        have htl : (fs.take (fs.length - 1)).length = fs.length - 1 := by rw [List.length_take]; omega
        rw [encs_take fs _ (by omega)] at c2
        have c2' : SlO (h2.next + 1) h3 4 v3 (fs.take (fs.length - 1)).length (encs (fs.take (fs.length - 1))) := by rw [htl]; exact c2
        refine callK_intro (ref_with ht1 _ v2 v3 (fs.take (fs.length - 1)) _ one2 cl2 gd2 (c2'.v.ext hxa) (by omega)) ?_
        rintro y h4 ⟨⟨v4, rfl, ho4⟩, hx6⟩
        replace ho4 : SlO (h3.next + 1) h4 4 v4 (fs.take (fs.length - 1)).length (encs (fs.take (fs.length - 1))) := ho4
        obtain ⟨one4, cl4, gd4⟩ := ho4.v.one
        have hx7 := hxa.trans hx6
        have q1 : h4.get (pa (h.next + 1)) = .ofL [.int .i64 0, .nilslice] 0 false := by
          rw [hx7.get _ (old_lt (by omega)), k2]
        have q2 : h4.get (pa h2.next) = .ofL [.int .i64 (lastF fs).op, .int .i64 (lastF fs).base, .int .i64 (lastF fs).res, .bool (lastF fs).dead] 0 false := by
          rw [hx7.get _ (old_lt (by omega)), f2]
        have q3 : h4.get (pa h3.next) = .ofL [.int .i64 ht1, v2] 0 false := by
          rw [hx6.get _ (old_lt (by simp only [next_new, next_set]; omega))]
          simp only [↓wpA1, ↓wpA2, ↓wpA3, wpB1, wpB2, wpB3, wpB4, wpB5, wpB6, repeatV, RX.evs, spl, over, ones, Ex.ends, evR, oneOf, Option.isSome_some, Option.getD_some, if_true, if_false, true_and, and_true, List.getElem?_cons_zero, List.getElem?_cons_succ, List.length_cons, List.length_nil, List.drop_zero, List.drop_succ_cons, List.take_succ_cons, List.take_zero, List.cons_append, List.nil_append, Option.some.injEq, exists_eq_left', top, List.cons.injEq, ↓reduceIte, Nat.reduceEqDiff, Nat.reduceLeDiff, Nat.reduceAdd, Nat.reduceSub, Nat.reduceMul, reduceCtorEq, Nat.succ_ne_zero, imp_T, imp_F, List.getElem?_nil, Int.reduceEq, Int.reduceLT, Int.reduceLE, Int.reduceNeg, Int.reduceAdd, Int.reduceSub, decide_true, decide_false, eq_self, not_true_eq_false, not_false_eq_true, ite_true, ite_false]
        simp +contextual only [n5, f2, q1, q2, q3, one4, cl4, gd4, ↓wpA1, ↓wpA2, ↓wpA3, wpB1, wpB2, wpB3, wpB4, wpB5, wpB6, repeatV, RX.evs, spl, over, ones, Ex.ends, evR, oneOf, Option.isSome_some, Option.getD_some, if_true, if_false, true_and, and_true, List.getElem?_cons_zero, List.getElem?_cons_succ, List.length_cons, List.length_nil, List.drop_zero, List.drop_succ_cons, List.take_succ_cons, List.take_zero, List.cons_append, List.nil_append, Option.some.injEq, exists_eq_left', top, List.cons.injEq, ↓reduceIte, Nat.reduceEqDiff, Nat.reduceLeDiff, Nat.reduceAdd, Nat.reduceSub, Nat.reduceMul, reduceCtorEq, Nat.succ_ne_zero, imp_T, imp_F, List.getElem?_nil, Int.reduceEq, Int.reduceLT, Int.reduceLE, Int.reduceNeg, Int.reduceAdd, Int.reduceSub, decide_true, decide_false, eq_self, not_true_eq_false, not_false_eq_true, ite_true, ite_false]
        refine ⟨?_, ((hx2.trans hx5).trans hx7).set (by omega) _⟩
        have e : leaveT ht fs = (0, (lastF fs).base + (lastF fs).res, fs.take (fs.length - 1)) := by
          have : ht1 = (lastF fs).base := by omega
          simp [leaveT, hp, hlt, this]
        unfold Told
        rw [hc1, Bool.and_self, if_pos rfl, e, if_pos rfl]
        simp only
        refine ⟨v4, rfl, (ho4.mono (by omega)).mod ((Mod.refl (fun b => b = pa (h.next + 1)) h4).set (fun _ => rfl) _) fun b hb' q => ?_⟩
        have := ho4.base hb'
        rw [q, unPa_pa] at this
        omega
end Go.Proofs.Ytkjifhoiiciblaa
