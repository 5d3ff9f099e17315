/- The chapter's functions, walked by the abstract machine: plain lemmas, no condition. -/
import Derived.Test.YtkjifhoiiciblaaM7
import Derived.Test.YtkjifhoiiciblaaM8
import Derived.Carry

namespace Go.Proofs.Ytkjifhoiiciblaa
open Go Am
set_option linter.unusedSimpArgs false
set_option linter.unusedVariables false

theorem tiled : tilesB Try.prog = true := by kernel_rfl
theorem laidOut : laidOutB Try.prog = true := by kernel_rfl
theorem cells42 : Try.prog.cellsOf 42 = 4 := by kernel_rfl
theorem cells24 : Try.prog.cellsOf 24 = 2 := by kernel_rfl
theorem cells3 : Try.prog.cellsOf 3 = 1 := by kernel_rfl
theorem cells4 : Try.prog.cellsOf 4 = 1 := by kernel_rfl
theorem cells22 : Try.prog.cellsOf 22 = 1 := by kernel_rfl

theorem four {vs : List V} (h : vs.length = 4) : ∃ a b c d, vs = [a, b, c, d] := by
  match vs, h with
  | [a, b, c, d], _ => exact ⟨a, b, c, d, rfl⟩
theorem two {vs : List V} (h : vs.length = 2) : ∃ a b, vs = [a, b] := by
  match vs, h with
  | [a, b], _ => exact ⟨a, b, rfl⟩

theorem open_frame {h : Heap} {n : Nat} {vs : List V} (H : Shp Try.prog h n 42 vs) : ∃ f : Fm, vs = f.enc := by
  obtain ⟨m, rfl, h1, h2⟩ := H.struct Try.underlying42
  rw [cells42] at h1
  obtain ⟨a, b, c, d, rfl⟩ := four h1
  have f0 := h2 _ (List.mem_of_getElem? (i := 0) rfl)
  have f1 := h2 _ (List.mem_of_getElem? (i := 1) rfl)
  have f2 := h2 _ (List.mem_of_getElem? (i := 2) rfl)
  have f3 := h2 _ (List.mem_of_getElem? (i := 3) rfl)
  simp only [cells3, cells4, List.drop_zero, List.drop_succ_cons, List.take_succ_cons, List.take_zero] at f0 f1 f2 f3
  obtain ⟨i0, e0, _⟩ := f0.int Try.underlying3
  obtain ⟨i1, e1, _⟩ := f1.int Try.underlying3
  obtain ⟨i2, e2, _⟩ := f2.int Try.underlying3
  obtain ⟨i3, e3⟩ := f3.bool Try.underlying4
  simp only [List.cons.injEq, and_true] at e0 e1 e2 e3
  subst e0 e1 e2 e3
  exact ⟨⟨i0, i1, i2, i3⟩, rfl⟩

/-- a stand that was handed in -/
def Std (h : Heap) (x : V) (ht : Int) (v : V) (len : Nat) : Prop :=
  x = .agg [.int .i64 ht, v] ∧ v.one = true ∧ v.cells = [v] ∧ v.good = true ∧ lenSl v = some (.int .i64 len) ∧ (len ≤ 100000 → ∃ fs, fs.length = len ∧ SlV h 4 v len (encs fs))

theorem open_stand {h : Heap} {n : Nat} {x : V} (H : ShpV Try.prog h n 24 x) : ∃ ht v len, Std h x ht v len := by
  unfold ShpV at H
  rw [Try.underlying24] at H
  simp only at H
  obtain ⟨vs, rfl, H⟩ := H
  obtain ⟨m, rfl, h1, h2⟩ := H.struct Try.underlying24
  rw [cells24] at h1
  obtain ⟨a, b, rfl⟩ := two h1
  have f0 := h2 _ (List.mem_of_getElem? (i := 0) rfl)
  have f1 := h2 _ (List.mem_of_getElem? (i := 1) rfl)
  simp only [cells3, cells22, List.drop_zero, List.drop_succ_cons, List.take_succ_cons, List.take_zero] at f0 f1
  obtain ⟨i0, e0, _⟩ := f0.int Try.underlying3
  simp only [List.cons.injEq, and_true] at e0
  subst e0
  obtain ⟨m', v, len, _, e1, g1, g2, g3, g4, g5, g6⟩ := f1.slice Try.underlying22 (by rw [cells42]; omega)
  simp only [List.cons.injEq, and_true] at e1
  subst e1
  refine ⟨i0, _, len, rfl, g1, g2, g3, g4, fun hl => ?_⟩
  rw [cells42] at g6
  obtain ⟨us, k1, k2⟩ := g6 (by unfold top; omega)
  obtain ⟨fs, q1, q2, _⟩ := collect Fm.enc 4 (fun _ => True) len us k1.1 (fun i hi => by
    obtain ⟨f, hf⟩ := open_frame (k2 i hi)
    exact ⟨f, hf, trivial⟩)
  subst q2
  exact ⟨fs, q1, k1⟩

theorem open_int3 {h : Heap} {n : Nat} {x : V} (H : ShpV Try.prog h n 3 x) : ∃ i, x = .int .i64 i ∧ (Lit.int .i64 i).wf = true := by
  unfold ShpV at H
  rw [Try.underlying3] at H
  obtain ⟨i, e, w⟩ := Shp.int H Try.underlying3
  simp only [List.cons.injEq, and_true] at e
  exact ⟨i, e, w⟩
theorem open_bool4 {h : Heap} {n : Nat} {x : V} (H : ShpV Try.prog h n 4 x) : ∃ b, x = .bool b := by
  unfold ShpV at H
  rw [Try.underlying4] at H
  obtain ⟨b, e⟩ := Shp.bool H Try.underlying4
  simp only [List.cons.injEq, and_true] at e
  exact ⟨b, e⟩

/-! what the document's examples say -/
noncomputable def ctx : Am.Ctx := ⟨Try.prog, fun _ => none⟩
theorem noPrim : Am.PrimOk ctx := by
  intro f p args h v h' hp
  cases hp
theorem awake_run : Am.truly ctx 100000 7 [] = true := by kernel_rfl
theorem awake_calls (h : Heap) : CallsV Try.prog 7 [] h (.bool true) h :=
  closed_callsV (fun E x e => by simp only [Rel]; exact e) ⟨Try.f7, Try.func7, by kernel_rfl⟩ (fun w => Am.truly_sound (C := ctx) follows namesOk noPrim awake_run) h

/-! a stand too long to be one -/
theorem check_long (ht : Int) (v : V) (len : Nat) (h : Heap) (one0 : v.one = true) (cl0 : v.cells = [v]) (gd0 : v.good = true) (hl : lenSl v = some (.int .i64 len)) (hn : 1000 < len) :
    Ctr Try.prog 8 [.agg [.int .i64 ht, v]] h fun x h' => x = .int .i64 2 ∧ Ext h h' := by
  refine c8_ctr rfl (wpK_of ?_)
  unfold c8
  have h1 : ((len : Int) < 1) = False := eq_false (by omega)
  have h2 : ((1000 : Int) < (len : Int)) = True := eq_true (by omega)
  simp +contextual only [hl, h1, h2, one0, cl0, gd0, ↓wpA1, ↓wpA2, ↓wpA3, wpB1, wpB2, wpB3, wpB4, wpB5, wpB6, repeatV, RX.evs, spl, over, ones, Ex.ends, evR, oneOf, Option.isSome_some, Option.getD_some, if_true, if_false, true_and, and_true, List.getElem?_cons_zero, List.getElem?_cons_succ, List.length_cons, List.length_nil, List.drop_zero, List.drop_succ_cons, List.take_succ_cons, List.take_zero, List.cons_append, List.nil_append, Option.some.injEq, exists_eq_left', top, List.cons.injEq, ↓reduceIte, Nat.reduceEqDiff, Nat.reduceLeDiff, Nat.reduceAdd, Nat.reduceSub, Nat.reduceMul, reduceCtorEq, Nat.succ_ne_zero, imp_T, imp_F, List.getElem?_nil, Int.reduceEq, Int.reduceLT, Int.reduceLE, Int.reduceNeg, Int.reduceAdd, Int.reduceSub, decide_true, decide_false, eq_self, not_true_eq_false, not_false_eq_true, ite_true, ite_false]
  exact (Ext.refl h).new _

theorem turned_long (g : FuncId) (cs : List V) (ht : Int) (v : V) (len : Nat) (fine : Bool) (h : Heap) (one0 : v.one = true) (cl0 : v.cells = [v]) (gd0 : v.good = true) (hl : lenSl v = some (.int .i64 len)) (hn : 1000 < len) :
    Ctr Try.prog 28 [.agg [.int .i64 ht, v], .bool fine, .func g cs] h fun x h' => x = .tuple [zeroS, .int .i64 2] ∧ Ext h h' := by
  refine c28_ctr rfl (wpK_of ?_)
  unfold c28
  cases fine with
  | false =>
    simp +contextual only [one0, cl0, gd0, ↓wpA1, ↓wpA2, ↓wpA3, wpB1, wpB2, wpB3, wpB4, wpB5, wpB6, repeatV, RX.evs, spl, over, ones, Ex.ends, evR, oneOf, Option.isSome_some, Option.getD_some, if_true, if_false, true_and, and_true, List.getElem?_cons_zero, List.getElem?_cons_succ, List.length_cons, List.length_nil, List.drop_zero, List.drop_succ_cons, List.take_succ_cons, List.take_zero, List.cons_append, List.nil_append, Option.some.injEq, exists_eq_left', top, List.cons.injEq, ↓reduceIte, Nat.reduceEqDiff, Nat.reduceLeDiff, Nat.reduceAdd, Nat.reduceSub, Nat.reduceMul, reduceCtorEq, Nat.succ_ne_zero, imp_T, imp_F, List.getElem?_nil, Int.reduceEq, Int.reduceLT, Int.reduceLE, Int.reduceNeg, Int.reduceAdd, Int.reduceSub, decide_true, decide_false, eq_self, not_true_eq_false, not_false_eq_true, ite_true, ite_false]
    exact ⟨rfl, (((Ext.refl h).new _).new _).set (Nat.le_succ _) _⟩
  | true =>
    simp +contextual only [one0, cl0, gd0, ↓wpA1, ↓wpA2, ↓wpA3, wpB1, wpB2, wpB3, wpB4, wpB5, wpB6, repeatV, RX.evs, spl, over, ones, Ex.ends, evR, oneOf, Option.isSome_some, Option.getD_some, if_true, if_false, true_and, and_true, List.getElem?_cons_zero, List.getElem?_cons_succ, List.length_cons, List.length_nil, List.drop_zero, List.drop_succ_cons, List.take_succ_cons, List.take_zero, List.cons_append, List.nil_append, Option.some.injEq, exists_eq_left', top, List.cons.injEq, ↓reduceIte, Nat.reduceEqDiff, Nat.reduceLeDiff, Nat.reduceAdd, Nat.reduceSub, Nat.reduceMul, reduceCtorEq, Nat.succ_ne_zero, imp_T, imp_F, List.getElem?_nil, Int.reduceEq, Int.reduceLT, Int.reduceLE, Int.reduceNeg, Int.reduceAdd, Int.reduceSub, decide_true, decide_false, eq_self, not_true_eq_false, not_false_eq_true, ite_true, ite_false]
    refine callK_intro (check_long ht v len _ one0 cl0 gd0 hl hn) ?_
    rintro x h1 ⟨rfl, hx⟩
    have g0 : h1.get (pa h.next) = .ofL [.int .i64 ht, v] 0 false := by
      rw [hx.get _ (old_lt (by simp only [next_new]; omega))]
      simp only [↓wpA1, ↓wpA2, ↓wpA3, wpB1, wpB2, wpB3, wpB4, wpB5, wpB6, repeatV, RX.evs, spl, over, ones, Ex.ends, evR, oneOf, Option.isSome_some, Option.getD_some, if_true, if_false, true_and, and_true, List.getElem?_cons_zero, List.getElem?_cons_succ, List.length_cons, List.length_nil, List.drop_zero, List.drop_succ_cons, List.take_succ_cons, List.take_zero, List.cons_append, List.nil_append, Option.some.injEq, exists_eq_left', top, List.cons.injEq, ↓reduceIte, Nat.reduceEqDiff, Nat.reduceLeDiff, Nat.reduceAdd, Nat.reduceSub, Nat.reduceMul, reduceCtorEq, Nat.succ_ne_zero, imp_T, imp_F, List.getElem?_nil, Int.reduceEq, Int.reduceLT, Int.reduceLE, Int.reduceNeg, Int.reduceAdd, Int.reduceSub, decide_true, decide_false, eq_self, not_true_eq_false, not_false_eq_true, ite_true, ite_false]
    have g1 : h1.get (pa (h.next + 1)) = .ofL [.int .i64 0, .nilslice] 0 false := by
      rw [hx.get _ (old_lt (by simp only [next_new]; omega))]
      simp only [↓wpA1, ↓wpA2, ↓wpA3, wpB1, wpB2, wpB3, wpB4, wpB5, wpB6, repeatV, RX.evs, spl, over, ones, Ex.ends, evR, oneOf, Option.isSome_some, Option.getD_some, if_true, if_false, true_and, and_true, List.getElem?_cons_zero, List.getElem?_cons_succ, List.length_cons, List.length_nil, List.drop_zero, List.drop_succ_cons, List.take_succ_cons, List.take_zero, List.cons_append, List.nil_append, Option.some.injEq, exists_eq_left', top, List.cons.injEq, ↓reduceIte, Nat.reduceEqDiff, Nat.reduceLeDiff, Nat.reduceAdd, Nat.reduceSub, Nat.reduceMul, reduceCtorEq, Nat.succ_ne_zero, imp_T, imp_F, List.getElem?_nil, Int.reduceEq, Int.reduceLT, Int.reduceLE, Int.reduceNeg, Int.reduceAdd, Int.reduceSub, decide_true, decide_false, eq_self, not_true_eq_false, not_false_eq_true, ite_true, ite_false]
    have hx0 : Ext h h1 := ((((Ext.refl h).new _).new _)).trans hx
    simp +contextual only [g0, g1, ↓wpA1, ↓wpA2, ↓wpA3, wpB1, wpB2, wpB3, wpB4, wpB5, wpB6, repeatV, RX.evs, spl, over, ones, Ex.ends, evR, oneOf, Option.isSome_some, Option.getD_some, if_true, if_false, true_and, and_true, List.getElem?_cons_zero, List.getElem?_cons_succ, List.length_cons, List.length_nil, List.drop_zero, List.drop_succ_cons, List.take_succ_cons, List.take_zero, List.cons_append, List.nil_append, Option.some.injEq, exists_eq_left', top, List.cons.injEq, ↓reduceIte, Nat.reduceEqDiff, Nat.reduceLeDiff, Nat.reduceAdd, Nat.reduceSub, Nat.reduceMul, reduceCtorEq, Nat.succ_ne_zero, imp_T, imp_F, List.getElem?_nil, Int.reduceEq, Int.reduceLT, Int.reduceLE, Int.reduceNeg, Int.reduceAdd, Int.reduceSub, decide_true, decide_false, eq_self, not_true_eq_false, not_false_eq_true, ite_true, ite_false]
    exact ⟨rfl, hx0.set (Nat.le_succ _) _⟩

theorem enter_long (op res ht : Int) (v : V) (len : Nat) (h : Heap) (one0 : v.one = true) (cl0 : v.cells = [v]) (gd0 : v.good = true) (hl : lenSl v = some (.int .i64 len)) (hn : 1000 < len) :
    Ctr Try.prog 18 [.agg [.int .i64 ht, v], .int .i64 op, .int .i64 res] h fun x h' => x = .tuple [zeroS, .int .i64 2] ∧ Ext h h' := by
  refine c18_ctr rfl (wpK_of ?_)
  unfold c18
  simp +contextual only [one0, cl0, gd0, ↓wpA1, ↓wpA2, ↓wpA3, wpB1, wpB2, wpB3, wpB4, wpB5, wpB6, repeatV, RX.evs, spl, over, ones, Ex.ends, evR, oneOf, Option.isSome_some, Option.getD_some, if_true, if_false, true_and, and_true, List.getElem?_cons_zero, List.getElem?_cons_succ, List.length_cons, List.length_nil, List.drop_zero, List.drop_succ_cons, List.take_succ_cons, List.take_zero, List.cons_append, List.nil_append, Option.some.injEq, exists_eq_left', top, List.cons.injEq, ↓reduceIte, Nat.reduceEqDiff, Nat.reduceLeDiff, Nat.reduceAdd, Nat.reduceSub, Nat.reduceMul, reduceCtorEq, Nat.succ_ne_zero, imp_T, imp_F, List.getElem?_nil, Int.reduceEq, Int.reduceLT, Int.reduceLE, Int.reduceNeg, Int.reduceAdd, Int.reduceSub, decide_true, decide_false, eq_self, not_true_eq_false, not_false_eq_true, ite_true, ite_false]
  refine callK_pure (list_pure op _) ?_
  simp +contextual only [one0, cl0, gd0, ↓wpA1, ↓wpA2, ↓wpA3, wpB1, wpB2, wpB3, wpB4, wpB5, wpB6, repeatV, RX.evs, spl, over, ones, Ex.ends, evR, oneOf, Option.isSome_some, Option.getD_some, if_true, if_false, true_and, and_true, List.getElem?_cons_zero, List.getElem?_cons_succ, List.length_cons, List.length_nil, List.drop_zero, List.drop_succ_cons, List.take_succ_cons, List.take_zero, List.cons_append, List.nil_append, Option.some.injEq, exists_eq_left', top, List.cons.injEq, ↓reduceIte, Nat.reduceEqDiff, Nat.reduceLeDiff, Nat.reduceAdd, Nat.reduceSub, Nat.reduceMul, reduceCtorEq, Nat.succ_ne_zero, imp_T, imp_F, List.getElem?_nil, Int.reduceEq, Int.reduceLT, Int.reduceLE, Int.reduceNeg, Int.reduceAdd, Int.reduceSub, decide_true, decide_false, eq_self, not_true_eq_false, not_false_eq_true, ite_true, ite_false]
  have hx : Ext h ((((h.new (.ofL [.int .i64 ht, v] 0 false)).new (.ofL [.int .i64 op] 0 false)).new (.ofL [.int .i64 res] 0 false)).new (.ofL [.int .i64 0, .nilslice] 0 false)) := ((((Ext.refl h).new _).new _).new _).new _
  refine callK_intro (turned_long 36 _ ht v len _ _ one0 cl0 gd0 hl hn) ?_
  rintro x h1 ⟨rfl, hx1⟩
  have g0 : h1.get (pa h.next) = .ofL [.int .i64 ht, v] 0 false := by
    rw [hx1.get _ (old_lt (by simp only [next_new]; omega))]
    simp only [↓wpA1, ↓wpA2, ↓wpA3, wpB1, wpB2, wpB3, wpB4, wpB5, wpB6, repeatV, RX.evs, spl, over, ones, Ex.ends, evR, oneOf, Option.isSome_some, Option.getD_some, if_true, if_false, true_and, and_true, List.getElem?_cons_zero, List.getElem?_cons_succ, List.length_cons, List.length_nil, List.drop_zero, List.drop_succ_cons, List.take_succ_cons, List.take_zero, List.cons_append, List.nil_append, Option.some.injEq, exists_eq_left', top, List.cons.injEq, ↓reduceIte, Nat.reduceEqDiff, Nat.reduceLeDiff, Nat.reduceAdd, Nat.reduceSub, Nat.reduceMul, reduceCtorEq, Nat.succ_ne_zero, imp_T, imp_F, List.getElem?_nil, Int.reduceEq, Int.reduceLT, Int.reduceLE, Int.reduceNeg, Int.reduceAdd, Int.reduceSub, decide_true, decide_false, eq_self, not_true_eq_false, not_false_eq_true, ite_true, ite_false]
  have g2 : h1.get (pa (h.next + 2)) = .ofL [.int .i64 res] 0 false := by
    rw [hx1.get _ (old_lt (by simp only [next_new]; omega))]
    simp only [↓wpA1, ↓wpA2, ↓wpA3, wpB1, wpB2, wpB3, wpB4, wpB5, wpB6, repeatV, RX.evs, spl, over, ones, Ex.ends, evR, oneOf, Option.isSome_some, Option.getD_some, if_true, if_false, true_and, and_true, List.getElem?_cons_zero, List.getElem?_cons_succ, List.length_cons, List.length_nil, List.drop_zero, List.drop_succ_cons, List.take_succ_cons, List.take_zero, List.cons_append, List.nil_append, Option.some.injEq, exists_eq_left', top, List.cons.injEq, ↓reduceIte, Nat.reduceEqDiff, Nat.reduceLeDiff, Nat.reduceAdd, Nat.reduceSub, Nat.reduceMul, reduceCtorEq, Nat.succ_ne_zero, imp_T, imp_F, List.getElem?_nil, Int.reduceEq, Int.reduceLT, Int.reduceLE, Int.reduceNeg, Int.reduceAdd, Int.reduceSub, decide_true, decide_false, eq_self, not_true_eq_false, not_false_eq_true, ite_true, ite_false]
  have g3 : h1.get (pa (h.next + 3)) = .ofL [.int .i64 0, .nilslice] 0 false := by
    rw [hx1.get _ (old_lt (by simp only [next_new]; omega))]
    simp only [↓wpA1, ↓wpA2, ↓wpA3, wpB1, wpB2, wpB3, wpB4, wpB5, wpB6, repeatV, RX.evs, spl, over, ones, Ex.ends, evR, oneOf, Option.isSome_some, Option.getD_some, if_true, if_false, true_and, and_true, List.getElem?_cons_zero, List.getElem?_cons_succ, List.length_cons, List.length_nil, List.drop_zero, List.drop_succ_cons, List.take_succ_cons, List.take_zero, List.cons_append, List.nil_append, Option.some.injEq, exists_eq_left', top, List.cons.injEq, ↓reduceIte, Nat.reduceEqDiff, Nat.reduceLeDiff, Nat.reduceAdd, Nat.reduceSub, Nat.reduceMul, reduceCtorEq, Nat.succ_ne_zero, imp_T, imp_F, List.getElem?_nil, Int.reduceEq, Int.reduceLT, Int.reduceLE, Int.reduceNeg, Int.reduceAdd, Int.reduceSub, decide_true, decide_false, eq_self, not_true_eq_false, not_false_eq_true, ite_true, ite_false]
  simp +contextual only [zeroS, g0, g2, g3, ↓wpA1, ↓wpA2, ↓wpA3, wpB1, wpB2, wpB3, wpB4, wpB5, wpB6, repeatV, RX.evs, spl, over, ones, Ex.ends, evR, oneOf, Option.isSome_some, Option.getD_some, if_true, if_false, true_and, and_true, List.getElem?_cons_zero, List.getElem?_cons_succ, List.length_cons, List.length_nil, List.drop_zero, List.drop_succ_cons, List.take_succ_cons, List.take_zero, List.cons_append, List.nil_append, Option.some.injEq, exists_eq_left', top, List.cons.injEq, ↓reduceIte, Nat.reduceEqDiff, Nat.reduceLeDiff, Nat.reduceAdd, Nat.reduceSub, Nat.reduceMul, reduceCtorEq, Nat.succ_ne_zero, imp_T, imp_F, List.getElem?_nil, Int.reduceEq, Int.reduceLT, Int.reduceLE, Int.reduceNeg, Int.reduceAdd, Int.reduceSub, decide_true, decide_false, eq_self, not_true_eq_false, not_false_eq_true, ite_true, ite_false]
  exact (hx.trans hx1).set (by omega) _
end Go.Proofs.Ytkjifhoiiciblaa

namespace Go.Proofs.Ytkjifhoiiciblaa
open Go Am
set_option linter.unusedSimpArgs false
set_option linter.unusedVariables false

theorem okFrom_height {ht ht' : Int} : ∀ {fs : List Fm} {i : Nat} {base : Int}, okFrom ht i base fs = true → (∀ f ∈ fs, f.base ≤ ht') → okFrom ht' i base fs = true
  | [], _, _, _, _ => rfl
  | f :: fs, i, base, h, hb => by
    simp only [okFrom, Bool.and_eq_true] at h ⊢
    refine ⟨?_, okFrom_height h.2 fun g hg => hb g (by simp [hg])⟩
    have h1 := h.1
    have hf := hb f (by simp)
    have : decide (ht' < f.base) = false := decide_eq_false (by omega)
    rw [this]
    simp at h1 ⊢
    simp [h1]
theorem lastF_cons (f g : Fm) (fs : List Fm) : lastF (f :: g :: fs) = lastF (g :: fs) := by
  unfold lastF
  simp
theorem okFrom_last {ht : Int} : ∀ {fs : List Fm} {i : Nat} {base : Int}, okFrom ht i base fs = true → ∀ f ∈ fs, f.base ≤ (lastF fs).base
  | [f], i, base, h, g, hg => by
    simp at hg
    subst hg
    exact Int.le_refl _
  | f :: g :: fs, i, base, h, x, hx => by
    rw [lastF_cons]
    simp only [okFrom, Bool.and_eq_true] at h
    have h2 : okFrom ht (i + 1) f.base (g :: fs) = true := by simp only [okFrom, Bool.and_eq_true]; exact h.2
    rcases List.mem_cons.1 hx with rfl | hx
    · have a := (okFrom_all h2 g (by simp)).1
      have b := okFrom_last h2 g (by simp)
      omega
    · exact okFrom_last h2 x hx

theorem check_height {ht ht' : Int} {fs : List Fm} (h : checkB ht fs = true) (h1 : (lastF fs).base ≤ ht') (h2 : ht' ≤ 1073741824) : checkB ht' fs = true := by
  have hb := check_last h
  unfold checkB at h ⊢
  simp only [Bool.and_eq_true] at h ⊢
  have hh := okFrom_last h.2
  refine ⟨?_, okFrom_height h.2 fun f hf => by have := hh f hf; omega⟩
  have h3 := h.1
  have c1 : decide (ht' < 0) = false := decide_eq_false (by omega)
  have c2 : decide (1073741824 < ht') = false := decide_eq_false (by omega)
  rw [c1, c2]
  simp at h3 ⊢
  omega

/-- the law StackBack -/
theorem stackBack (n : Int) (x : V) (ht : Int) (v : V) (len : Nat) (h : Heap) (hs : Std h x ht v len) : Ctr Try.prog 3 [x, .int .i64 n] h fun y _ => y = .bool true := by
  obtain ⟨rfl, one0, cl0, gd0, hl, hfs⟩ := hs
  refine c3_ctr rfl (wpK_of ?_)
  unfold c3
  simp +contextual only [one0, cl0, gd0, ↓wpA1, ↓wpA2, ↓wpA3, wpB1, wpB2, wpB3, wpB4, wpB5, wpB6, repeatV, RX.evs, spl, over, ones, Ex.ends, evR, oneOf, Option.isSome_some, Option.getD_some, if_true, if_false, true_and, and_true, List.getElem?_cons_zero, List.getElem?_cons_succ, List.length_cons, List.length_nil, List.drop_zero, List.drop_succ_cons, List.take_succ_cons, List.take_zero, List.cons_append, List.nil_append, Option.some.injEq, exists_eq_left', top, List.cons.injEq, ↓reduceIte, Nat.reduceEqDiff, Nat.reduceLeDiff, Nat.reduceAdd, Nat.reduceSub, Nat.reduceMul, reduceCtorEq, Nat.succ_ne_zero, imp_T, imp_F, List.getElem?_nil, Int.reduceEq, Int.reduceLT, Int.reduceLE, Int.reduceNeg, Int.reduceAdd, Int.reduceSub, decide_true, decide_false, eq_self, not_true_eq_false, not_false_eq_true, ite_true, ite_false]
  refine callK_pure (awake_calls _) ?_
  simp +contextual only [one0, cl0, gd0, ↓wpA1, ↓wpA2, ↓wpA3, wpB1, wpB2, wpB3, wpB4, wpB5, wpB6, repeatV, RX.evs, spl, over, ones, Ex.ends, evR, oneOf, Option.isSome_some, Option.getD_some, if_true, if_false, true_and, and_true, List.getElem?_cons_zero, List.getElem?_cons_succ, List.length_cons, List.length_nil, List.drop_zero, List.drop_succ_cons, List.take_succ_cons, List.take_zero, List.cons_append, List.nil_append, Option.some.injEq, exists_eq_left', top, List.cons.injEq, ↓reduceIte, Nat.reduceEqDiff, Nat.reduceLeDiff, Nat.reduceAdd, Nat.reduceSub, Nat.reduceMul, reduceCtorEq, Nat.succ_ne_zero, imp_T, imp_F, List.getElem?_nil, Int.reduceEq, Int.reduceLT, Int.reduceLE, Int.reduceNeg, Int.reduceAdd, Int.reduceSub, decide_true, decide_false, eq_self, not_true_eq_false, not_false_eq_true, ite_true, ite_false]
  have hx : Ext h (h.new (.ofL [.int .i64 ht, v] 0 false)) := (Ext.refl h).new _
  by_cases hlen : 1000 < len
  · refine callK_intro (check_long ht v len _ one0 cl0 gd0 hl hlen) ?_
    rintro x h1 ⟨rfl, hx1⟩
    simp +contextual only [↓wpA1, ↓wpA2, ↓wpA3, wpB1, wpB2, wpB3, wpB4, wpB5, wpB6, repeatV, RX.evs, spl, over, ones, Ex.ends, evR, oneOf, Option.isSome_some, Option.getD_some, if_true, if_false, true_and, and_true, List.getElem?_cons_zero, List.getElem?_cons_succ, List.length_cons, List.length_nil, List.drop_zero, List.drop_succ_cons, List.take_succ_cons, List.take_zero, List.cons_append, List.nil_append, Option.some.injEq, exists_eq_left', top, List.cons.injEq, ↓reduceIte, Nat.reduceEqDiff, Nat.reduceLeDiff, Nat.reduceAdd, Nat.reduceSub, Nat.reduceMul, reduceCtorEq, Nat.succ_ne_zero, imp_T, imp_F, List.getElem?_nil, Int.reduceEq, Int.reduceLT, Int.reduceLE, Int.reduceNeg, Int.reduceAdd, Int.reduceSub, decide_true, decide_false, eq_self, not_true_eq_false, not_false_eq_true, ite_true, ite_false]
  · obtain ⟨fs, rfl, hv⟩ := hfs (by omega)
    refine callK_intro (check_ctr ht v fs _ (hv.ext hx)) ?_
    rintro x h1 ⟨rfl, hx1⟩
    have hx2 := hx.trans hx1
    have g0 : h1.get (pa h.next) = .ofL [.int .i64 ht, v] 0 false := by
      rw [hx1.get _ (old_lt (by simp only [next_new]; omega))]
      simp only [↓wpA1, ↓wpA2, ↓wpA3, wpB1, wpB2, wpB3, wpB4, wpB5, wpB6, repeatV, RX.evs, spl, over, ones, Ex.ends, evR, oneOf, Option.isSome_some, Option.getD_some, if_true, if_false, true_and, and_true, List.getElem?_cons_zero, List.getElem?_cons_succ, List.length_cons, List.length_nil, List.drop_zero, List.drop_succ_cons, List.take_succ_cons, List.take_zero, List.cons_append, List.nil_append, Option.some.injEq, exists_eq_left', top, List.cons.injEq, ↓reduceIte, Nat.reduceEqDiff, Nat.reduceLeDiff, Nat.reduceAdd, Nat.reduceSub, Nat.reduceMul, reduceCtorEq, Nat.succ_ne_zero, imp_T, imp_F, List.getElem?_nil, Int.reduceEq, Int.reduceLT, Int.reduceLE, Int.reduceNeg, Int.reduceAdd, Int.reduceSub, decide_true, decide_false, eq_self, not_true_eq_false, not_false_eq_true, ite_true, ite_false]
    cases hc : checkB ht fs with
    | false => simp +contextual only [hc, ↓wpA1, ↓wpA2, ↓wpA3, wpB1, wpB2, wpB3, wpB4, wpB5, wpB6, repeatV, RX.evs, spl, over, ones, Ex.ends, evR, oneOf, Option.isSome_some, Option.getD_some, if_true, if_false, true_and, and_true, List.getElem?_cons_zero, List.getElem?_cons_succ, List.length_cons, List.length_nil, List.drop_zero, List.drop_succ_cons, List.take_succ_cons, List.take_zero, List.cons_append, List.nil_append, Option.some.injEq, exists_eq_left', top, List.cons.injEq, ↓reduceIte, Nat.reduceEqDiff, Nat.reduceLeDiff, Nat.reduceAdd, Nat.reduceSub, Nat.reduceMul, reduceCtorEq, Nat.succ_ne_zero, imp_T, imp_F, List.getElem?_nil, Int.reduceEq, Int.reduceLT, Int.reduceLE, Int.reduceNeg, Int.reduceAdd, Int.reduceSub, decide_true, decide_false, eq_self, not_true_eq_false, not_false_eq_true, ite_true, ite_false]
    | true =>
      obtain ⟨l1, l2, l3, l4⟩ := check_len hc
      obtain ⟨b1, b2, b3, b4⟩ := check_last hc
      by_cases hn : n < 0 ∨ 1000 < n
      · have hn' : (decide (n < 0) || decide (1000 < n)) = true := by simpa using hn
        simp +contextual only [hc, hn', ↓wpA1, ↓wpA2, ↓wpA3, wpB1, wpB2, wpB3, wpB4, wpB5, wpB6, repeatV, RX.evs, spl, over, ones, Ex.ends, evR, oneOf, Option.isSome_some, Option.getD_some, if_true, if_false, true_and, and_true, List.getElem?_cons_zero, List.getElem?_cons_succ, List.length_cons, List.length_nil, List.drop_zero, List.drop_succ_cons, List.take_succ_cons, List.take_zero, List.cons_append, List.nil_append, Option.some.injEq, exists_eq_left', top, List.cons.injEq, ↓reduceIte, Nat.reduceEqDiff, Nat.reduceLeDiff, Nat.reduceAdd, Nat.reduceSub, Nat.reduceMul, reduceCtorEq, Nat.succ_ne_zero, imp_T, imp_F, List.getElem?_nil, Int.reduceEq, Int.reduceLT, Int.reduceLE, Int.reduceNeg, Int.reduceAdd, Int.reduceSub, decide_true, decide_false, eq_self, not_true_eq_false, not_false_eq_true, ite_true, ite_false]
      · have hn' : (decide (n < 0) || decide (1000 < n)) = false := by simpa using hn
        have hn0 : 0 ≤ n := by omega
        simp +contextual only [hc, hn', g0, ↓wpA1, ↓wpA2, ↓wpA3, wpB1, wpB2, wpB3, wpB4, wpB5, wpB6, repeatV, RX.evs, spl, over, ones, Ex.ends, evR, oneOf, Option.isSome_some, Option.getD_some, if_true, if_false, true_and, and_true, List.getElem?_cons_zero, List.getElem?_cons_succ, List.length_cons, List.length_nil, List.drop_zero, List.drop_succ_cons, List.take_succ_cons, List.take_zero, List.cons_append, List.nil_append, Option.some.injEq, exists_eq_left', top, List.cons.injEq, ↓reduceIte, Nat.reduceEqDiff, Nat.reduceLeDiff, Nat.reduceAdd, Nat.reduceSub, Nat.reduceMul, reduceCtorEq, Nat.succ_ne_zero, imp_T, imp_F, List.getElem?_nil, Int.reduceEq, Int.reduceLT, Int.reduceLE, Int.reduceNeg, Int.reduceAdd, Int.reduceSub, decide_true, decide_false, eq_self, not_true_eq_false, not_false_eq_true, ite_true, ite_false]
        refine callK_intro (push_api n ht v fs h1 (hv.ext hx2)) ?_
        rintro y h2 ⟨hT, hx3⟩
        have g1 : h2.get (pa h.next) = .ofL [.int .i64 ht, v] 0 false := by
          rw [hx3.get _ (old_lt (by have := hx1.next; simp only [next_new] at this; omega)), g0]
        have nx1 : h.next + 1 ≤ h1.next := hx1.next
        have nx2 := hx3.next
        have n0 : (pa h2.next = pa h.next) = False := by rw [pa_eq]; exact eq_false (by omega)
        have n0' : (h2.next = h.next) = False := eq_false (by omega)
        have n0'' : (h.next = h2.next) = False := eq_false (by omega)
        unfold Told at hT
        rw [hc, decide_eq_true hn0, Bool.and_self, if_pos rfl] at hT
        by_cases hb : 1073741824 - ht < n
        · rw [if_neg (by simp [pushT, hb])] at hT
          have e1 : (pushT n ht fs).1 = 8 := by simp [pushT, hb]
          subst hT
          simp +contextual only [zeroS, e1, g1, n0, n0', n0'', ↓wpA1, ↓wpA2, ↓wpA3, wpB1, wpB2, wpB3, wpB4, wpB5, wpB6, repeatV, RX.evs, spl, over, ones, Ex.ends, evR, oneOf, Option.isSome_some, Option.getD_some, if_true, if_false, true_and, and_true, List.getElem?_cons_zero, List.getElem?_cons_succ, List.length_cons, List.length_nil, List.drop_zero, List.drop_succ_cons, List.take_succ_cons, List.take_zero, List.cons_append, List.nil_append, Option.some.injEq, exists_eq_left', top, List.cons.injEq, ↓reduceIte, Nat.reduceEqDiff, Nat.reduceLeDiff, Nat.reduceAdd, Nat.reduceSub, Nat.reduceMul, reduceCtorEq, Nat.succ_ne_zero, imp_T, imp_F, List.getElem?_nil, Int.reduceEq, Int.reduceLT, Int.reduceLE, Int.reduceNeg, Int.reduceAdd, Int.reduceSub, decide_true, decide_false, eq_self, not_true_eq_false, not_false_eq_true, ite_true, ite_false]
        · rw [if_pos (by simp [pushT, hb])] at hT
          simp only [pushT, hb, if_false] at hT
          obtain ⟨v1, rfl, ho1⟩ := hT
          obtain ⟨one1, cl1, gd1⟩ := ho1.v.one
          have hc2 : checkB (ht + n) fs = true := check_height hc (by omega) (by omega)
          simp +contextual only [g1, n0, n0', n0'', one1, cl1, gd1, ↓wpA1, ↓wpA2, ↓wpA3, wpB1, wpB2, wpB3, wpB4, wpB5, wpB6, repeatV, RX.evs, spl, over, ones, Ex.ends, evR, oneOf, Option.isSome_some, Option.getD_some, if_true, if_false, true_and, and_true, List.getElem?_cons_zero, List.getElem?_cons_succ, List.length_cons, List.length_nil, List.drop_zero, List.drop_succ_cons, List.take_succ_cons, List.take_zero, List.cons_append, List.nil_append, Option.some.injEq, exists_eq_left', top, List.cons.injEq, ↓reduceIte, Nat.reduceEqDiff, Nat.reduceLeDiff, Nat.reduceAdd, Nat.reduceSub, Nat.reduceMul, reduceCtorEq, Nat.succ_ne_zero, imp_T, imp_F, List.getElem?_nil, Int.reduceEq, Int.reduceLT, Int.reduceLE, Int.reduceNeg, Int.reduceAdd, Int.reduceSub, decide_true, decide_false, eq_self, not_true_eq_false, not_false_eq_true, ite_true, ite_false]
          have hxa : Ext h2 ((h2.new (.ofL [.int .i64 0, .nilslice] 0 false)).set (pa h2.next) (.ofL [.int .i64 (ht + n), v1] 0 false)) := ((Ext.refl h2).new _).set (by omega) _
          refine callK_intro (pop_api n (ht + n) v1 fs _ (ho1.v.ext hxa)) ?_
          rintro y h3 ⟨hT, hx4⟩
          have hx5 := hxa.trans hx4
          have hx05 := (hx2.trans hx3).trans hx5
          have g2 : h3.get (pa h.next) = .ofL [.int .i64 ht, v] 0 false := by
            rw [hx5.get _ (old_lt (by omega)), g1]
          have nx3 : h2.next + 1 ≤ h3.next := hx4.next
          have m0' : (h3.next = h.next) = False := eq_false (by omega)
          have m0'' : (h.next = h3.next) = False := eq_false (by omega)
          unfold Told at hT
          rw [hc2, decide_eq_true hn0, Bool.and_self, if_pos rfl] at hT
          have hnb : ¬ (ht + n - (lastF fs).base < n) := by omega
          have ep : popT n (ht + n) fs = (0, ht, fs) := by
            simp only [popT, hnb, false_and, if_false]
            congr 2
            omega
          rw [ep, if_pos rfl] at hT
          obtain ⟨v2, rfl, ho2⟩ := hT
          simp only at ho2
          obtain ⟨one2, cl2, gd2⟩ := ho2.v.one
          simp +contextual only [g2, m0', m0'', one2, cl2, gd2, ↓wpA1, ↓wpA2, ↓wpA3, wpB1, wpB2, wpB3, wpB4, wpB5, wpB6, repeatV, RX.evs, spl, over, ones, Ex.ends, evR, oneOf, Option.isSome_some, Option.getD_some, if_true, if_false, true_and, and_true, List.getElem?_cons_zero, List.getElem?_cons_succ, List.length_cons, List.length_nil, List.drop_zero, List.drop_succ_cons, List.take_succ_cons, List.take_zero, List.cons_append, List.nil_append, Option.some.injEq, exists_eq_left', top, List.cons.injEq, ↓reduceIte, Nat.reduceEqDiff, Nat.reduceLeDiff, Nat.reduceAdd, Nat.reduceSub, Nat.reduceMul, reduceCtorEq, Nat.succ_ne_zero, imp_T, imp_F, List.getElem?_nil, Int.reduceEq, Int.reduceLT, Int.reduceLE, Int.reduceNeg, Int.reduceAdd, Int.reduceSub, decide_true, decide_false, eq_self, not_true_eq_false, not_false_eq_true, ite_true, ite_false]
          have hxb : Ext h3 ((h3.new (.ofL [.int .i64 0, .nilslice] 0 false)).set (pa h3.next) (.ofL [.int .i64 ht, v2] 0 false)) := ((Ext.refl h3).new _).set (by omega) _
          refine callK_intro (same_ctr ht ht v2 v fs fs _ (ho2.v.ext hxb) (hv.ext (hx05.trans hxb)) (by omega)) ?_
          rintro y h4 ⟨rfl, hx6⟩
          rw [decide_eq_true rfl, eqFs_self]
          have hx7 := hxb.trans hx6
          have nx4 : h3.next + 1 ≤ h4.next := hx6.next
          have g3 : h4.get (pa h.next) = .ofL [.int .i64 ht, v] 0 false := by
            rw [hx7.get _ (old_lt (by omega)), g2]
          have k0' : (h4.next = h.next) = False := eq_false (by omega)
          simp +contextual only [g3, k0', ↓wpA1, ↓wpA2, ↓wpA3, wpB1, wpB2, wpB3, wpB4, wpB5, wpB6, repeatV, RX.evs, spl, over, ones, Ex.ends, evR, oneOf, Option.isSome_some, Option.getD_some, if_true, if_false, true_and, and_true, List.getElem?_cons_zero, List.getElem?_cons_succ, List.length_cons, List.length_nil, List.drop_zero, List.drop_succ_cons, List.take_succ_cons, List.take_zero, List.cons_append, List.nil_append, Option.some.injEq, exists_eq_left', top, List.cons.injEq, ↓reduceIte, Nat.reduceEqDiff, Nat.reduceLeDiff, Nat.reduceAdd, Nat.reduceSub, Nat.reduceMul, reduceCtorEq, Nat.succ_ne_zero, imp_T, imp_F, List.getElem?_nil, Int.reduceEq, Int.reduceLT, Int.reduceLE, Int.reduceNeg, Int.reduceAdd, Int.reduceSub, decide_true, decide_false, eq_self, not_true_eq_false, not_false_eq_true, ite_true, ite_false]
          refine callK_intro (pop_api n ht v fs h4 (hv.ext (hx05.trans hx7))) ?_
          rintro y h5 ⟨hT, hx8⟩
          have nx5 := hx8.next
          have g4 : h5.get (pa h.next) = .ofL [.int .i64 ht, v] 0 false := by
            rw [hx8.get _ (old_lt (by omega)), g3]
          have j0' : (h5.next = h.next) = False := eq_false (by omega)
          unfold Told at hT
          rw [hc, decide_eq_true hn0, Bool.and_self, if_pos rfl] at hT
          by_cases he : (popT n ht fs).1 = 0
          · rw [if_pos he] at hT
            obtain ⟨v3, rfl, ho3⟩ := hT
            obtain ⟨one3, cl3, gd3⟩ := ho3.v.one
            have hp : ¬ (ht - (lastF fs).base < n ∧ (lastF fs).dead = false) := by
              intro q
              simp [popT, q] at he
            have e2 : (popT n ht fs).2 = (ht - (if ht - (lastF fs).base < n then ht - (lastF fs).base else n), fs) := by simp only [popT, if_neg hp]
            rw [e2] at ho3 ⊢
            simp only at ho3 ⊢
            have hle : (lastF fs).base ≤ ht - (if ht - (lastF fs).base < n then ht - (lastF fs).base else n) ∧ ht - (if ht - (lastF fs).base < n then ht - (lastF fs).base else n) ≤ ht := by
              split <;> omega
            generalize (ht - (if ht - (lastF fs).base < n then ht - (lastF fs).base else n)) = ht' at ho3 hle ⊢
            have hc3 : checkB ht' fs = true := check_height hc hle.1 (by omega)
            simp +contextual only [g4, j0', one3, cl3, gd3, ↓wpA1, ↓wpA2, ↓wpA3, wpB1, wpB2, wpB3, wpB4, wpB5, wpB6, repeatV, RX.evs, spl, over, ones, Ex.ends, evR, oneOf, Option.isSome_some, Option.getD_some, if_true, if_false, true_and, and_true, List.getElem?_cons_zero, List.getElem?_cons_succ, List.length_cons, List.length_nil, List.drop_zero, List.drop_succ_cons, List.take_succ_cons, List.take_zero, List.cons_append, List.nil_append, Option.some.injEq, exists_eq_left', top, List.cons.injEq, ↓reduceIte, Nat.reduceEqDiff, Nat.reduceLeDiff, Nat.reduceAdd, Nat.reduceSub, Nat.reduceMul, reduceCtorEq, Nat.succ_ne_zero, imp_T, imp_F, List.getElem?_nil, Int.reduceEq, Int.reduceLT, Int.reduceLE, Int.reduceNeg, Int.reduceAdd, Int.reduceSub, decide_true, decide_false, eq_self, not_true_eq_false, not_false_eq_true, ite_true, ite_false]
            have hxc : Ext h5 ((h5.new (.ofL [.int .i64 0, .nilslice] 0 false)).set (pa h5.next) (.ofL [.int .i64 ht', v3] 0 false)) := ((Ext.refl h5).new _).set (by omega) _
            refine callK_intro (check_ctr ht' v3 fs _ (ho3.v.ext hxc)) ?_
            rintro y h6 ⟨rfl, hx9⟩
            have nx6 : h5.next + 1 ≤ h6.next := hx9.next
            have g5 : h6.get (pa h.next) = .ofL [.int .i64 ht, v] 0 false := by
              rw [hx9.get _ (old_lt (by simp only [next_new, next_set]; omega))]
              simp only [g4, j0', ↓wpA1, ↓wpA2, ↓wpA3, wpB1, wpB2, wpB3, wpB4, wpB5, wpB6, repeatV, RX.evs, spl, over, ones, Ex.ends, evR, oneOf, Option.isSome_some, Option.getD_some, if_true, if_false, true_and, and_true, List.getElem?_cons_zero, List.getElem?_cons_succ, List.length_cons, List.length_nil, List.drop_zero, List.drop_succ_cons, List.take_succ_cons, List.take_zero, List.cons_append, List.nil_append, Option.some.injEq, exists_eq_left', top, List.cons.injEq, ↓reduceIte, Nat.reduceEqDiff, Nat.reduceLeDiff, Nat.reduceAdd, Nat.reduceSub, Nat.reduceMul, reduceCtorEq, Nat.succ_ne_zero, imp_T, imp_F, List.getElem?_nil, Int.reduceEq, Int.reduceLT, Int.reduceLE, Int.reduceNeg, Int.reduceAdd, Int.reduceSub, decide_true, decide_false, eq_self, not_true_eq_false, not_false_eq_true, ite_true, ite_false]
            have g6 : h6.get (pa h5.next) = .ofL [.int .i64 ht', v3] 0 false := by
              rw [hx9.get _ (old_lt (by simp only [next_new, next_set]; omega))]
              simp only [↓wpA1, ↓wpA2, ↓wpA3, wpB1, wpB2, wpB3, wpB4, wpB5, wpB6, repeatV, RX.evs, spl, over, ones, Ex.ends, evR, oneOf, Option.isSome_some, Option.getD_some, if_true, if_false, true_and, and_true, List.getElem?_cons_zero, List.getElem?_cons_succ, List.length_cons, List.length_nil, List.drop_zero, List.drop_succ_cons, List.take_succ_cons, List.take_zero, List.cons_append, List.nil_append, Option.some.injEq, exists_eq_left', top, List.cons.injEq, ↓reduceIte, Nat.reduceEqDiff, Nat.reduceLeDiff, Nat.reduceAdd, Nat.reduceSub, Nat.reduceMul, reduceCtorEq, Nat.succ_ne_zero, imp_T, imp_F, List.getElem?_nil, Int.reduceEq, Int.reduceLT, Int.reduceLE, Int.reduceNeg, Int.reduceAdd, Int.reduceSub, decide_true, decide_false, eq_self, not_true_eq_false, not_false_eq_true, ite_true, ite_false]
            have hle2 : (ht' ≤ ht) = True := eq_true hle.2
            simp +contextual only [hc3, hle2, g5, g6, ↓wpA1, ↓wpA2, ↓wpA3, wpB1, wpB2, wpB3, wpB4, wpB5, wpB6, repeatV, RX.evs, spl, over, ones, Ex.ends, evR, oneOf, Option.isSome_some, Option.getD_some, if_true, if_false, true_and, and_true, List.getElem?_cons_zero, List.getElem?_cons_succ, List.length_cons, List.length_nil, List.drop_zero, List.drop_succ_cons, List.take_succ_cons, List.take_zero, List.cons_append, List.nil_append, Option.some.injEq, exists_eq_left', top, List.cons.injEq, ↓reduceIte, Nat.reduceEqDiff, Nat.reduceLeDiff, Nat.reduceAdd, Nat.reduceSub, Nat.reduceMul, reduceCtorEq, Nat.succ_ne_zero, imp_T, imp_F, List.getElem?_nil, Int.reduceEq, Int.reduceLT, Int.reduceLE, Int.reduceNeg, Int.reduceAdd, Int.reduceSub, decide_true, decide_false, eq_self, not_true_eq_false, not_false_eq_true, ite_true, ite_false]
          · rw [if_neg he] at hT
            subst hT
            have he' : ((popT n ht fs).1 = 0) = False := eq_false he
            simp +contextual only [zeroS, he', g4, j0', ↓wpA1, ↓wpA2, ↓wpA3, wpB1, wpB2, wpB3, wpB4, wpB5, wpB6, repeatV, RX.evs, spl, over, ones, Ex.ends, evR, oneOf, Option.isSome_some, Option.getD_some, if_true, if_false, true_and, and_true, List.getElem?_cons_zero, List.getElem?_cons_succ, List.length_cons, List.length_nil, List.drop_zero, List.drop_succ_cons, List.take_succ_cons, List.take_zero, List.cons_append, List.nil_append, Option.some.injEq, exists_eq_left', top, List.cons.injEq, ↓reduceIte, Nat.reduceEqDiff, Nat.reduceLeDiff, Nat.reduceAdd, Nat.reduceSub, Nat.reduceMul, reduceCtorEq, Nat.succ_ne_zero, imp_T, imp_F, List.getElem?_nil, Int.reduceEq, Int.reduceLT, Int.reduceLE, Int.reduceNeg, Int.reduceAdd, Int.reduceSub, decide_true, decide_false, eq_self, not_true_eq_false, not_false_eq_true, ite_true, ite_false]
end Go.Proofs.Ytkjifhoiiciblaa
