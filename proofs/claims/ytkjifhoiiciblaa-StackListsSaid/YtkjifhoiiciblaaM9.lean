/- The chapter's functions, walked by the abstract machine: plain lemmas, no condition. -/
import Derived.Test.YtkjifhoiiciblaaM7
import Derived.Test.YtkjifhoiiciblaaM8
import Derived.Carry

namespace Go.Proofs.Ytkjifhoiiciblaa
open Go Am
set_option linter.unusedSimpArgs false
set_option linter.unusedVariables false

theorem tiled : tilesB Try.prog = true := by kernel_rfl
theorem laidOut : laidOutB Try.prog = true := by kernel_rfl
theorem cells42 : Try.prog.cellsOf 42 = 4 := by kernel_rfl
theorem cells24 : Try.prog.cellsOf 24 = 2 := by kernel_rfl
theorem cells3 : Try.prog.cellsOf 3 = 1 := by kernel_rfl
theorem cells4 : Try.prog.cellsOf 4 = 1 := by kernel_rfl
theorem cells22 : Try.prog.cellsOf 22 = 1 := by kernel_rfl

theorem four {vs : List V} (h : vs.length = 4) : ∃ a b c d, vs = [a, b, c, d] := by
  match vs, h with
  | [a, b, c, d], _ => exact ⟨a, b, c, d, rfl⟩
theorem two {vs : List V} (h : vs.length = 2) : ∃ a b, vs = [a, b] := by
  match vs, h with
  | [a, b], _ => exact ⟨a, b, rfl⟩

theorem open_frame {h : Heap} {n : Nat} {vs : List V} (H : Shp Try.prog h n 42 vs) : ∃ f : Fm, vs = f.enc := by
  obtain ⟨m, rfl, h1, h2⟩ := H.struct Try.underlying42
  rw [cells42] at h1
  obtain ⟨a, b, c, d, rfl⟩ := four h1
  have f0 := h2 _ (List.mem_of_getElem? (i := 0) rfl)
  have f1 := h2 _ (List.mem_of_getElem? (i := 1) rfl)
  have f2 := h2 _ (List.mem_of_getElem? (i := 2) rfl)
  have f3 := h2 _ (List.mem_of_getElem? (i := 3) rfl)
  simp only [cells3, cells4, List.drop_zero, List.drop_succ_cons, List.take_succ_cons, List.take_zero] at f0 f1 f2 f3
  obtain ⟨i0, e0, _⟩ := f0.int Try.underlying3
  obtain ⟨i1, e1, _⟩ := f1.int Try.underlying3
  obtain ⟨i2, e2, _⟩ := f2.int Try.underlying3
  obtain ⟨i3, e3⟩ := f3.bool Try.underlying4
  simp only [List.cons.injEq, and_true] at e0 e1 e2 e3
  subst e0 e1 e2 e3
  exact ⟨⟨i0, i1, i2, i3⟩, rfl⟩

/-- a stand that was handed in -/
def Std (h : Heap) (x : V) (ht : Int) (v : V) (len : Nat) : Prop :=
  x = .agg [.int .i64 ht, v] ∧ v.one = true ∧ v.cells = [v] ∧ v.good = true ∧ lenSl v = some (.int .i64 len) ∧ (len ≤ 100000 → ∃ fs, fs.length = len ∧ SlV h 4 v len (encs fs))

theorem open_stand {h : Heap} {n : Nat} {x : V} (H : ShpV Try.prog h n 24 x) : ∃ ht v len, Std h x ht v len := by
  unfold ShpV at H
  rw [Try.underlying24] at H
  simp only at H
  obtain ⟨vs, rfl, H⟩ := H
  obtain ⟨m, rfl, h1, h2⟩ := H.struct Try.underlying24
  rw [cells24] at h1
  obtain ⟨a, b, rfl⟩ := two h1
  have f0 := h2 _ (List.mem_of_getElem? (i := 0) rfl)
  have f1 := h2 _ (List.mem_of_getElem? (i := 1) rfl)
  simp only [cells3, cells22, List.drop_zero, List.drop_succ_cons, List.take_succ_cons, List.take_zero] at f0 f1
  obtain ⟨i0, e0, _⟩ := f0.int Try.underlying3
  simp only [List.cons.injEq, and_true] at e0
  subst e0
  obtain ⟨m', v, len, _, e1, g1, g2, g3, g4, g5, g6⟩ := f1.slice Try.underlying22 (by rw [cells42]; omega)
  simp only [List.cons.injEq, and_true] at e1
  subst e1
  refine ⟨i0, _, len, rfl, g1, g2, g3, g4, fun hl => ?_⟩
  rw [cells42] at g6
  obtain ⟨us, k1, k2⟩ := g6 (by unfold top; omega)
  obtain ⟨fs, q1, q2, _⟩ := collect Fm.enc 4 (fun _ => True) len us k1.1 (fun i hi => by
    obtain ⟨f, hf⟩ := open_frame (k2 i hi)
    exact ⟨f, hf, trivial⟩)
  subst q2
  exact ⟨fs, q1, k1⟩

theorem open_int3 {h : Heap} {n : Nat} {x : V} (H : ShpV Try.prog h n 3 x) : ∃ i, x = .int .i64 i ∧ (Lit.int .i64 i).wf = true := by
  unfold ShpV at H
  rw [Try.underlying3] at H
  obtain ⟨i, e, w⟩ := Shp.int H Try.underlying3
  simp only [List.cons.injEq, and_true] at e
  exact ⟨i, e, w⟩
theorem open_bool4 {h : Heap} {n : Nat} {x : V} (H : ShpV Try.prog h n 4 x) : ∃ b, x = .bool b := by
  unfold ShpV at H
  rw [Try.underlying4] at H
  obtain ⟨b, e⟩ := Shp.bool H Try.underlying4
  simp only [List.cons.injEq, and_true] at e
  exact ⟨b, e⟩

/-! what the document's examples say -/
noncomputable def ctx : Am.Ctx := ⟨Try.prog, fun _ => none⟩
theorem noPrim : Am.PrimOk ctx := by
  intro f p args h v h' hp
  cases hp
theorem awake_run : Am.truly ctx 100000 7 [] = true := by kernel_rfl
theorem awake_calls (h : Heap) : CallsV Try.prog 7 [] h (.bool true) h :=
  closed_callsV (fun E x e => by simp only [Rel]; exact e) ⟨Try.f7, Try.func7, by kernel_rfl⟩ (fun w => Am.truly_sound (C := ctx) follows namesOk noPrim awake_run) h

/-! a stand too long to be one -/
theorem check_long (ht : Int) (v : V) (len : Nat) (h : Heap) (one0 : v.one = true) (cl0 : v.cells = [v]) (gd0 : v.good = true) (hl : lenSl v = some (.int .i64 len)) (hn : 1000 < len) :
    Ctr Try.prog 8 [.agg [.int .i64 ht, v]] h fun x h' => x = .int .i64 2 ∧ Ext h h' := by
  refine c8_ctr rfl (wpK_of ?_)
  unfold c8
  have h1 : ((len : Int) < 1) = False := eq_false (by omega)
  have h2 : ((1000 : Int) < (len : Int)) = True := eq_true (by omega)
  simp +contextual only [hl, h1, h2, one0, cl0, gd0, ↓wpA1, ↓wpA2, ↓wpA3, wpB1, wpB2, wpB3, wpB4, wpB5, wpB6, repeatV, RX.evs, spl, over, ones, Ex.ends, evR, oneOf, Option.isSome_some, Option.getD_some, if_true, if_false, true_and, and_true, List.getElem?_cons_zero, List.getElem?_cons_succ, List.length_cons, List.length_nil, List.drop_zero, List.drop_succ_cons, List.take_succ_cons, List.take_zero, List.cons_append, List.nil_append, Option.some.injEq, exists_eq_left', top, List.cons.injEq, ↓reduceIte, Nat.reduceEqDiff, Nat.reduceLeDiff, Nat.reduceAdd, Nat.reduceSub, Nat.reduceMul, reduceCtorEq, Nat.succ_ne_zero, imp_T, imp_F, List.getElem?_nil, Int.reduceEq, Int.reduceLT, Int.reduceLE, Int.reduceNeg, Int.reduceAdd, Int.reduceSub, decide_true, decide_false, eq_self, not_true_eq_false, not_false_eq_true, ite_true, ite_false]
  exact (Ext.refl h).new _

theorem turned_long (g : FuncId) (cs : List V) (ht : Int) (v : V) (len : Nat) (fine : Bool) (h : Heap) (one0 : v.one = true) (cl0 : v.cells = [v]) (gd0 : v.good = true) (hl : lenSl v = some (.int .i64 len)) (hn : 1000 < len) :
    Ctr Try.prog 28 [.agg [.int .i64 ht, v], .bool fine, .func g cs] h fun x h' => x = .tuple [zeroS, .int .i64 2] ∧ Ext h h' := by
  refine c28_ctr rfl (wpK_of ?_)
  unfold c28
  cases fine with
  | false =>
    simp +contextual only [one0, cl0, gd0, ↓wpA1, ↓wpA2, ↓wpA3, wpB1, wpB2, wpB3, wpB4, wpB5, wpB6, repeatV, RX.evs, spl, over, ones, Ex.ends, evR, oneOf, Option.isSome_some, Option.getD_some, if_true, if_false, true_and, and_true, List.getElem?_cons_zero, List.getElem?_cons_succ, List.length_cons, List.length_nil, List.drop_zero, List.drop_succ_cons, List.take_succ_cons, List.take_zero, List.cons_append, List.nil_append, Option.some.injEq, exists_eq_left', top, List.cons.injEq, ↓reduceIte, Nat.reduceEqDiff, Nat.reduceLeDiff, Nat.reduceAdd, Nat.reduceSub, Nat.reduceMul, reduceCtorEq, Nat.succ_ne_zero, imp_T, imp_F, List.getElem?_nil, Int.reduceEq, Int.reduceLT, Int.reduceLE, Int.reduceNeg, Int.reduceAdd, Int.reduceSub, decide_true, decide_false, eq_self, not_true_eq_false, not_false_eq_true, ite_true, ite_false]
    exact ⟨rfl, (((Ext.refl h).new _).new _).set (Nat.le_succ _) _⟩
  | true =>
    simp +contextual only [one0, cl0, gd0, ↓wpA1, ↓wpA2, ↓wpA3, wpB1, wpB2, wpB3, wpB4, wpB5, wpB6, repeatV, RX.evs, spl, over, ones, Ex.ends, evR, oneOf, Option.isSome_some, Option.getD_some, if_true, if_false, true_and, and_true, List.getElem?_cons_zero, List.getElem?_cons_succ, List.length_cons, List.length_nil, List.drop_zero, List.drop_succ_cons, List.take_succ_cons, List.take_zero, List.cons_append, List.nil_append, Option.some.injEq, exists_eq_left', top, List.cons.injEq, ↓reduceIte, Nat.reduceEqDiff, Nat.reduceLeDiff, Nat.reduceAdd, Nat.reduceSub, Nat.reduceMul, reduceCtorEq, Nat.succ_ne_zero, imp_T, imp_F, List.getElem?_nil, Int.reduceEq, Int.reduceLT, Int.reduceLE, Int.reduceNeg, Int.reduceAdd, Int.reduceSub, decide_true, decide_false, eq_self, not_true_eq_false, not_false_eq_true, ite_true, ite_false]
    refine callK_intro (check_long ht v len _ one0 cl0 gd0 hl hn) ?_
    rintro x h1 ⟨rfl, hx⟩
    have g0 : h1.get (pa h.next) = .ofL [.int .i64 ht, v] 0 false := by
      rw [hx.get _ (old_lt (by simp only [next_new]; omega))]
      simp only [↓wpA1, ↓wpA2, ↓wpA3, wpB1, wpB2, wpB3, wpB4, wpB5, wpB6, repeatV, RX.evs, spl, over, ones, Ex.ends, evR, oneOf, Option.isSome_some, Option.getD_some, if_true, if_false, true_and, and_true, List.getElem?_cons_zero, List.getElem?_cons_succ, List.length_cons, List.length_nil, List.drop_zero, List.drop_succ_cons, List.take_succ_cons, List.take_zero, List.cons_append, List.nil_append, Option.some.injEq, exists_eq_left', top, List.cons.injEq, ↓reduceIte, Nat.reduceEqDiff, Nat.reduceLeDiff, Nat.reduceAdd, Nat.reduceSub, Nat.reduceMul, reduceCtorEq, Nat.succ_ne_zero, imp_T, imp_F, List.getElem?_nil, Int.reduceEq, Int.reduceLT, Int.reduceLE, Int.reduceNeg, Int.reduceAdd, Int.reduceSub, decide_true, decide_false, eq_self, not_true_eq_false, not_false_eq_true, ite_true, ite_false]
    have g1 : h1.get (pa (h.next + 1)) = .ofL [.int .i64 0, .nilslice] 0 false := by
      rw [hx.get _ (old_lt (by simp only [next_new]; omega))]
      simp only [↓wpA1, ↓wpA2, ↓wpA3, wpB1, wpB2, wpB3, wpB4, wpB5, wpB6, repeatV, RX.evs, spl, over, ones, Ex.ends, evR, oneOf, Option.isSome_some, Option.getD_some, if_true, if_false, true_and, and_true, List.getElem?_cons_zero, List.getElem?_cons_succ, List.length_cons, List.length_nil, List.drop_zero, List.drop_succ_cons, List.take_succ_cons, List.take_zero, List.cons_append, List.nil_append, Option.some.injEq, exists_eq_left', top, List.cons.injEq, ↓reduceIte, Nat.reduceEqDiff, Nat.reduceLeDiff, Nat.reduceAdd, Nat.reduceSub, Nat.reduceMul, reduceCtorEq, Nat.succ_ne_zero, imp_T, imp_F, List.getElem?_nil, Int.reduceEq, Int.reduceLT, Int.reduceLE, Int.reduceNeg, Int.reduceAdd, Int.reduceSub, decide_true, decide_false, eq_self, not_true_eq_false, not_false_eq_true, ite_true, ite_false]
    have hx0 : Ext h h1 := ((((Ext.refl h).new _).new _)).trans hx
    simp +contextual only [g0, g1, ↓wpA1, ↓wpA2, ↓wpA3, wpB1, wpB2, wpB3, wpB4, wpB5, wpB6, repeatV, RX.evs, spl, over, ones, Ex.ends, evR, oneOf, Option.isSome_some, Option.getD_some, if_true, if_false, true_and, and_true, List.getElem?_cons_zero, List.getElem?_cons_succ, List.length_cons, List.length_nil, List.drop_zero, List.drop_succ_cons, List.take_succ_cons, List.take_zero, List.cons_append, List.nil_append, Option.some.injEq, exists_eq_left', top, List.cons.injEq, ↓reduceIte, Nat.reduceEqDiff, Nat.reduceLeDiff, Nat.reduceAdd, Nat.reduceSub, Nat.reduceMul, reduceCtorEq, Nat.succ_ne_zero, imp_T, imp_F, List.getElem?_nil, Int.reduceEq, Int.reduceLT, Int.reduceLE, Int.reduceNeg, Int.reduceAdd, Int.reduceSub, decide_true, decide_false, eq_self, not_true_eq_false, not_false_eq_true, ite_true, ite_false]
    exact ⟨rfl, hx0.set (Nat.le_succ _) _⟩

theorem enter_long (op res ht : Int) (v : V) (len : Nat) (h : Heap) (one0 : v.one = true) (cl0 : v.cells = [v]) (gd0 : v.good = true) (hl : lenSl v = some (.int .i64 len)) (hn : 1000 < len) :
    Ctr Try.prog 18 [.agg [.int .i64 ht, v], .int .i64 op, .int .i64 res] h fun x h' => x = .tuple [zeroS, .int .i64 2] ∧ Ext h h' := by
  refine c18_ctr rfl (wpK_of ?_)
  unfold c18
  simp +contextual only [one0, cl0, gd0, ↓wpA1, ↓wpA2, ↓wpA3, wpB1, wpB2, wpB3, wpB4, wpB5, wpB6, repeatV, RX.evs, spl, over, ones, Ex.ends, evR, oneOf, Option.isSome_some, Option.getD_some, if_true, if_false, true_and, and_true, List.getElem?_cons_zero, List.getElem?_cons_succ, List.length_cons, List.length_nil, List.drop_zero, List.drop_succ_cons, List.take_succ_cons, List.take_zero, List.cons_append, List.nil_append, Option.some.injEq, exists_eq_left', top, List.cons.injEq, ↓reduceIte, Nat.reduceEqDiff, Nat.reduceLeDiff, Nat.reduceAdd, Nat.reduceSub, Nat.reduceMul, reduceCtorEq, Nat.succ_ne_zero, imp_T, imp_F, List.getElem?_nil, Int.reduceEq, Int.reduceLT, Int.reduceLE, Int.reduceNeg, Int.reduceAdd, Int.reduceSub, decide_true, decide_false, eq_self, not_true_eq_false, not_false_eq_true, ite_true, ite_false]
  refine callK_pure (list_pure op _) ?_
  simp +contextual only [one0, cl0, gd0, ↓wpA1, ↓wpA2, ↓wpA3, wpB1, wpB2, wpB3, wpB4, wpB5, wpB6, repeatV, RX.evs, spl, over, ones, Ex.ends, evR, oneOf, Option.isSome_some, Option.getD_some, if_true, if_false, true_and, and_true, List.getElem?_cons_zero, List.getElem?_cons_succ, List.length_cons, List.length_nil, List.drop_zero, List.drop_succ_cons, List.take_succ_cons, List.take_zero, List.cons_append, List.nil_append, Option.some.injEq, exists_eq_left', top, List.cons.injEq, ↓reduceIte, Nat.reduceEqDiff, Nat.reduceLeDiff, Nat.reduceAdd, Nat.reduceSub, Nat.reduceMul, reduceCtorEq, Nat.succ_ne_zero, imp_T, imp_F, List.getElem?_nil, Int.reduceEq, Int.reduceLT, Int.reduceLE, Int.reduceNeg, Int.reduceAdd, Int.reduceSub, decide_true, decide_false, eq_self, not_true_eq_false, not_false_eq_true, ite_true, ite_false]
  have hx : Ext h ((((h.new (.ofL [.int .i64 ht, v] 0 false)).new (.ofL [.int .i64 op] 0 false)).new (.ofL [.int .i64 res] 0 false)).new (.ofL [.int .i64 0, .nilslice] 0 false)) := ((((Ext.refl h).new _).new _).new _).new _
  refine callK_intro (turned_long 36 _ ht v len _ _ one0 cl0 gd0 hl hn) ?_
  rintro x h1 ⟨rfl, hx1⟩
  have g0 : h1.get (pa h.next) = .ofL [.int .i64 ht, v] 0 false := by
    rw [hx1.get _ (old_lt (by simp only [next_new]; omega))]
    simp only [↓wpA1, ↓wpA2, ↓wpA3, wpB1, wpB2, wpB3, wpB4, wpB5, wpB6, repeatV, RX.evs, spl, over, ones, Ex.ends, evR, oneOf, Option.isSome_some, Option.getD_some, if_true, if_false, true_and, and_true, List.getElem?_cons_zero, List.getElem?_cons_succ, List.length_cons, List.length_nil, List.drop_zero, List.drop_succ_cons, List.take_succ_cons, List.take_zero, List.cons_append, List.nil_append, Option.some.injEq, exists_eq_left', top, List.cons.injEq, ↓reduceIte, Nat.reduceEqDiff, Nat.reduceLeDiff, Nat.reduceAdd, Nat.reduceSub, Nat.reduceMul, reduceCtorEq, Nat.succ_ne_zero, imp_T, imp_F, List.getElem?_nil, Int.reduceEq, Int.reduceLT, Int.reduceLE, Int.reduceNeg, Int.reduceAdd, Int.reduceSub, decide_true, decide_false, eq_self, not_true_eq_false, not_false_eq_true, ite_true, ite_false]
  have g2 : h1.get (pa (h.next + 2)) = .ofL [.int .i64 res] 0 false := by
    rw [hx1.get _ (old_lt (by simp only [next_new]; omega))]
    simp only [↓wpA1, ↓wpA2, ↓wpA3, wpB1, wpB2, wpB3, wpB4, wpB5, wpB6, repeatV, RX.evs, spl, over, ones, Ex.ends, evR, oneOf, Option.isSome_some, Option.getD_some, if_true, if_false, true_and, and_true, List.getElem?_cons_zero, List.getElem?_cons_succ, List.length_cons, List.length_nil, List.drop_zero, List.drop_succ_cons, List.take_succ_cons, List.take_zero, List.cons_append, List.nil_append, Option.some.injEq, exists_eq_left', top, List.cons.injEq, ↓reduceIte, Nat.reduceEqDiff, Nat.reduceLeDiff, Nat.reduceAdd, Nat.reduceSub, Nat.reduceMul, reduceCtorEq, Nat.succ_ne_zero, imp_T, imp_F, List.getElem?_nil, Int.reduceEq, Int.reduceLT, Int.reduceLE, Int.reduceNeg, Int.reduceAdd, Int.reduceSub, decide_true, decide_false, eq_self, not_true_eq_false, not_false_eq_true, ite_true, ite_false]
  have g3 : h1.get (pa (h.next + 3)) = .ofL [.int .i64 0, .nilslice] 0 false := by
    rw [hx1.get _ (old_lt (by simp only [next_new]; omega))]
    simp only [↓wpA1, ↓wpA2, ↓wpA3, wpB1, wpB2, wpB3, wpB4, wpB5, wpB6, repeatV, RX.evs, spl, over, ones, Ex.ends, evR, oneOf, Option.isSome_some, Option.getD_some, if_true, if_false, true_and, and_true, List.getElem?_cons_zero, List.getElem?_cons_succ, List.length_cons, List.length_nil, List.drop_zero, List.drop_succ_cons, List.take_succ_cons, List.take_zero, List.cons_append, List.nil_append, Option.some.injEq, exists_eq_left', top, List.cons.injEq, ↓reduceIte, Nat.reduceEqDiff, Nat.reduceLeDiff, Nat.reduceAdd, Nat.reduceSub, Nat.reduceMul, reduceCtorEq, Nat.succ_ne_zero, imp_T, imp_F, List.getElem?_nil, Int.reduceEq, Int.reduceLT, Int.reduceLE, Int.reduceNeg, Int.reduceAdd, Int.reduceSub, decide_true, decide_false, eq_self, not_true_eq_false, not_false_eq_true, ite_true, ite_false]
  simp +contextual only [zeroS, g0, g2, g3, ↓wpA1, ↓wpA2, ↓wpA3, wpB1, wpB2, wpB3, wpB4, wpB5, wpB6, repeatV, RX.evs, spl, over, ones, Ex.ends, evR, oneOf, Option.isSome_some, Option.getD_some, if_true, if_false, true_and, and_true, List.getElem?_cons_zero, List.getElem?_cons_succ, List.length_cons, List.length_nil, List.drop_zero, List.drop_succ_cons, List.take_succ_cons, List.take_zero, List.cons_append, List.nil_append, Option.some.injEq, exists_eq_left', top, List.cons.injEq, ↓reduceIte, Nat.reduceEqDiff, Nat.reduceLeDiff, Nat.reduceAdd, Nat.reduceSub, Nat.reduceMul, reduceCtorEq, Nat.succ_ne_zero, imp_T, imp_F, List.getElem?_nil, Int.reduceEq, Int.reduceLT, Int.reduceLE, Int.reduceNeg, Int.reduceAdd, Int.reduceSub, decide_true, decide_false, eq_self, not_true_eq_false, not_false_eq_true, ite_true, ite_false]
  exact (hx.trans hx1).set (by omega) _
end Go.Proofs.Ytkjifhoiiciblaa

namespace Go.Proofs.Ytkjifhoiiciblaa
open Go Am
set_option linter.unusedSimpArgs false
set_option linter.unusedVariables false

theorem okFrom_height {ht ht' : Int} : ∀ {fs : List Fm} {i : Nat} {base : Int}, okFrom ht i base fs = true → (∀ f ∈ fs, f.base ≤ ht') → okFrom ht' i base fs = true
  | [], _, _, _, _ => rfl
  | f :: fs, i, base, h, hb => by
    simp only [okFrom, Bool.and_eq_true] at h ⊢
    refine ⟨?_, okFrom_height h.2 fun g hg => hb g (by simp [hg])⟩
    have h1 := h.1
    have hf := hb f (by simp)
    have : decide (ht' < f.base) = false := decide_eq_false (by omega)
    rw [this]
    simp at h1 ⊢
    simp [h1]
theorem lastF_cons (f g : Fm) (fs : List Fm) : lastF (f :: g :: fs) = lastF (g :: fs) := by
  unfold lastF
  simp
theorem okFrom_last {ht : Int} : ∀ {fs : List Fm} {i : Nat} {base : Int}, okFrom ht i base fs = true → ∀ f ∈ fs, f.base ≤ (lastF fs).base
  | [f], i, base, h, g, hg => by
    simp at hg
    subst hg
    exact Int.le_refl _
  | f :: g :: fs, i, base, h, x, hx => by
    rw [lastF_cons]
    simp only [okFrom, Bool.and_eq_true] at h
    have h2 : okFrom ht (i + 1) f.base (g :: fs) = true := by simp only [okFrom, Bool.and_eq_true]; exact h.2
    rcases List.mem_cons.1 hx with rfl | hx
    · have a := (okFrom_all h2 g (by simp)).1
      have b := okFrom_last h2 g (by simp)
      omega
    · exact okFrom_last h2 x hx

theorem check_height {ht ht' : Int} {fs : List Fm} (h : checkB ht fs = true) (h1 : (lastF fs).base ≤ ht') (h2 : ht' ≤ 1073741824) : checkB ht' fs = true := by
  have hb := check_last h
  unfold checkB at h ⊢
  simp only [Bool.and_eq_true] at h ⊢
  have hh := okFrom_last h.2
  refine ⟨?_, okFrom_height h.2 fun f hf => by have := hh f hf; omega⟩
  have h3 := h.1
  have c1 : decide (ht' < 0) = false := decide_eq_false (by omega)
  have c2 : decide (1073741824 < ht') = false := decide_eq_false (by omega)
  rw [c1, c2]
  simp at h3 ⊢
  omega

/-- the law StackBack -/
theorem stackBack (n : Int) (x : V) (ht : Int) (v : V) (len : Nat) (h : Heap) (hs : Std h x ht v len) : Ctr Try.prog 3 [x, .int .i64 n] h fun y _ => y = .bool true := by
  obtain ⟨rfl, one0, cl0, gd0, hl, hfs⟩ := hs
  refine c3_ctr rfl (wpK_of ?_)
  unfold c3
  simp +contextual only [one0, cl0, gd0, ↓wpA1, ↓wpA2, ↓wpA3, wpB1, wpB2, wpB3, wpB4, wpB5, wpB6, repeatV, RX.evs, spl, over, ones, Ex.ends, evR, oneOf, Option.isSome_some, Option.getD_some, if_true, if_false, true_and, and_true, List.getElem?_cons_zero, List.getElem?_cons_succ, List.length_cons, List.length_nil, List.drop_zero, List.drop_succ_cons, List.take_succ_cons, List.take_zero, List.cons_append, List.nil_append, Option.some.injEq, exists_eq_left', top, List.cons.injEq, ↓reduceIte, Nat.reduceEqDiff, Nat.reduceLeDiff, Nat.reduceAdd, Nat.reduceSub, Nat.reduceMul, reduceCtorEq, Nat.succ_ne_zero, imp_T, imp_F, List.getElem?_nil, Int.reduceEq, Int.reduceLT, Int.reduceLE, Int.reduceNeg, Int.reduceAdd, Int.reduceSub, decide_true, decide_false, eq_self, not_true_eq_false, not_false_eq_true, ite_true, ite_false]
  refine callK_pure (awake_calls _) ?_
  simp +contextual only [one0, cl0, gd0, ↓wpA1, ↓wpA2, ↓wpA3, wpB1, wpB2, wpB3, wpB4, wpB5, wpB6, repeatV, RX.evs, spl, over, ones, Ex.ends, evR, oneOf, Option.isSome_some, Option.getD_some, if_true, if_false, true_and, and_true, List.getElem?_cons_zero, List.getElem?_cons_succ, List.length_cons, List.length_nil, List.drop_zero, List.drop_succ_cons, List.take_succ_cons, List.take_zero, List.cons_append, List.nil_append, Option.some.injEq, exists_eq_left', top, List.cons.injEq, ↓reduceIte, Nat.reduceEqDiff, Nat.reduceLeDiff, Nat.reduceAdd, Nat.reduceSub, Nat.reduceMul, reduceCtorEq, Nat.succ_ne_zero, imp_T, imp_F, List.getElem?_nil, Int.reduceEq, Int.reduceLT, Int.reduceLE, Int.reduceNeg, Int.reduceAdd, Int.reduceSub, decide_true, decide_false, eq_self, not_true_eq_false, not_false_eq_true, ite_true, ite_false]
  have hx : Ext h (h.new (.ofL [.int .i64 ht, v] 0 false)) := (Ext.refl h).new _
  by_cases hlen : 1000 < len
  · refine callK_intro (check_long ht v len _ one0 cl0 gd0 hl hlen) ?_
    rintro x h1 ⟨rfl, hx1⟩
    simp +contextual only [↓wpA1, ↓wpA2, ↓wpA3, wpB1, wpB2, wpB3, wpB4, wpB5, wpB6, repeatV, RX.evs, spl, over, ones, Ex.ends, evR, oneOf, Option.isSome_some, Option.getD_some, if_true, if_false, true_and, and_true, List.getElem?_cons_zero, List.getElem?_cons_succ, List.length_cons, List.length_nil, List.drop_zero, List.drop_succ_cons, List.take_succ_cons, List.take_zero, List.cons_append, List.nil_append, Option.some.injEq, exists_eq_left', top, List.cons.injEq, ↓reduceIte, Nat.reduceEqDiff, Nat.reduceLeDiff, Nat.reduceAdd, Nat.reduceSub, Nat.reduceMul, reduceCtorEq, Nat.succ_ne_zero, imp_T, imp_F, List.getElem?_nil, Int.reduceEq, Int.reduceLT, Int.reduceLE, Int.reduceNeg, Int.reduceAdd, Int.reduceSub, decide_true, decide_false, eq_self, not_true_eq_false, not_false_eq_true, ite_true, ite_false]
  · obtain ⟨fs, rfl, hv⟩ := hfs (by omega)
    refine callK_intro (check_ctr ht v fs _ (hv.ext hx)) ?_
    rintro x h1 ⟨rfl, hx1⟩
    have hx2 := hx.trans hx1
    have g0 : h1.get (pa h.next) = .ofL [.int .i64 ht, v] 0 false := by
      rw [hx1.get _ (old_lt (by simp only [next_new]; omega))]
      simp only [↓wpA1, ↓wpA2, ↓wpA3, wpB1, wpB2, wpB3, wpB4, wpB5, wpB6, repeatV, RX.evs, spl, over, ones, Ex.ends, evR, oneOf, Option.isSome_some, Option.getD_some, if_true, if_false, true_and, and_true, List.getElem?_cons_zero, List.getElem?_cons_succ, List.length_cons, List.length_nil, List.drop_zero, List.drop_succ_cons, List.take_succ_cons, List.take_zero, List.cons_append, List.nil_append, Option.some.injEq, exists_eq_left', top, List.cons.injEq, ↓reduceIte, Nat.reduceEqDiff, Nat.reduceLeDiff, Nat.reduceAdd, Nat.reduceSub, Nat.reduceMul, reduceCtorEq, Nat.succ_ne_zero, imp_T, imp_F, List.getElem?_nil, Int.reduceEq, Int.reduceLT, Int.reduceLE, Int.reduceNeg, Int.reduceAdd, Int.reduceSub, decide_true, decide_false, eq_self, not_true_eq_false, not_false_eq_true, ite_true, ite_false]
    cases hc : checkB ht fs with
    | false => simp +contextual only [hc, ↓wpA1, ↓wpA2, ↓wpA3, wpB1, wpB2, wpB3, wpB4, wpB5, wpB6, repeatV, RX.evs, spl, over, ones, Ex.ends, evR, oneOf, Option.isSome_some, Option.getD_some, if_true, if_false, true_and, and_true, List.getElem?_cons_zero, List.getElem?_cons_succ, List.length_cons, List.length_nil, List.drop_zero, List.drop_succ_cons, List.take_succ_cons, List.take_zero, List.cons_append, List.nil_append, Option.some.injEq, exists_eq_left', top, List.cons.injEq, ↓reduceIte, Nat.reduceEqDiff, Nat.reduceLeDiff, Nat.reduceAdd, Nat.reduceSub, Nat.reduceMul, reduceCtorEq, Nat.succ_ne_zero, imp_T, imp_F, List.getElem?_nil, Int.reduceEq, Int.reduceLT, Int.reduceLE, Int.reduceNeg, Int.reduceAdd, Int.reduceSub, decide_true, decide_false, eq_self, not_true_eq_false, not_false_eq_true, ite_true, ite_false]
    | true =>
      obtain ⟨l1, l2, l3, l4⟩ := check_len hc
      obtain ⟨b1, b2, b3, b4⟩ := check_last hc
      by_cases hn : n < 0 ∨ 1000 < n
      · have hn' : (decide (n < 0) || decide (1000 < n)) = true := by simpa using hn
        simp +contextual only [hc, hn', ↓wpA1, ↓wpA2, ↓wpA3, wpB1, wpB2, wpB3, wpB4, wpB5, wpB6, repeatV, RX.evs, spl, over, ones, Ex.ends, evR, oneOf, Option.isSome_some, Option.getD_some, if_true, if_false, true_and, and_true, List.getElem?_cons_zero, List.getElem?_cons_succ, List.length_cons, List.length_nil, List.drop_zero, List.drop_succ_cons, List.take_succ_cons, List.take_zero, List.cons_append, List.nil_append, Option.some.injEq, exists_eq_left', top, List.cons.injEq, ↓reduceIte, Nat.reduceEqDiff, Nat.reduceLeDiff, Nat.reduceAdd, Nat.reduceSub, Nat.reduceMul, reduceCtorEq, Nat.succ_ne_zero, imp_T, imp_F, List.getElem?_nil, Int.reduceEq, Int.reduceLT, Int.reduceLE, Int.reduceNeg, Int.reduceAdd, Int.reduceSub, decide_true, decide_false, eq_self, not_true_eq_false, not_false_eq_true, ite_true, ite_false]
      · have hn' : (decide (n < 0) || decide (1000 < n)) = false := by simpa using hn
        have hn0 : 0 ≤ n := by omega
        simp +contextual only [hc, hn', g0, ↓wpA1, ↓wpA2, ↓wpA3, wpB1, wpB2, wpB3, wpB4, wpB5, wpB6, repeatV, RX.evs, spl, over, ones, Ex.ends, evR, oneOf, Option.isSome_some, Option.getD_some, if_true, if_false, true_and, and_true, List.getElem?_cons_zero, List.getElem?_cons_succ, List.length_cons, List.length_nil, List.drop_zero, List.drop_succ_cons, List.take_succ_cons, List.take_zero, List.cons_append, List.nil_append, Option.some.injEq, exists_eq_left', top, List.cons.injEq, ↓reduceIte, Nat.reduceEqDiff, Nat.reduceLeDiff, Nat.reduceAdd, Nat.reduceSub, Nat.reduceMul, reduceCtorEq, Nat.succ_ne_zero, imp_T, imp_F, List.getElem?_nil, Int.reduceEq, Int.reduceLT, Int.reduceLE, Int.reduceNeg, Int.reduceAdd, Int.reduceSub, decide_true, decide_false, eq_self, not_true_eq_false, not_false_eq_true, ite_true, ite_false]
        refine callK_intro (push_api n ht v fs h1 (hv.ext hx2)) ?_
        rintro y h2 ⟨hT, hx3⟩
        have g1 : h2.get (pa h.next) = .ofL [.int .i64 ht, v] 0 false := by
          rw [hx3.get _ (old_lt (by have := hx1.next; simp only [next_new] at this; omega)), g0]
        have nx1 : h.next + 1 ≤ h1.next := hx1.next
        have nx2 := hx3.next
        have n0 : (pa h2.next = pa h.next) = False := by rw [pa_eq]; exact eq_false (by omega)
        have n0' : (h2.next = h.next) = False := eq_false (by omega)
        have n0'' : (h.next = h2.next) = False := eq_false (by omega)
        unfold Told at hT
        rw [hc, decide_eq_true hn0, Bool.and_self, if_pos rfl] at hT
        by_cases hb : 1073741824 - ht < n
        · rw [if_neg (by simp [pushT, hb])] at hT
          have e1 : (pushT n ht fs).1 = 8 := by simp [pushT, hb]
          subst hT
          simp +contextual only [zeroS, e1, g1, n0, n0', n0'', ↓wpA1, ↓wpA2, ↓wpA3, wpB1, wpB2, wpB3, wpB4, wpB5, wpB6, repeatV, RX.evs, spl, over, ones, Ex.ends, evR, oneOf, Option.isSome_some, Option.getD_some, if_true, if_false, true_and, and_true, List.getElem?_cons_zero, List.getElem?_cons_succ, List.length_cons, List.length_nil, List.drop_zero, List.drop_succ_cons, List.take_succ_cons, List.take_zero, List.cons_append, List.nil_append, Option.some.injEq, exists_eq_left', top, List.cons.injEq, ↓reduceIte, Nat.reduceEqDiff, Nat.reduceLeDiff, Nat.reduceAdd, Nat.reduceSub, Nat.reduceMul, reduceCtorEq, Nat.succ_ne_zero, imp_T, imp_F, List.getElem?_nil, Int.reduceEq, Int.reduceLT, Int.reduceLE, Int.reduceNeg, Int.reduceAdd, Int.reduceSub, decide_true, decide_false, eq_self, not_true_eq_false, not_false_eq_true, ite_true, ite_false]
        · rw [if_pos (by simp [pushT, hb])] at hT
          simp only [pushT, hb, if_false] at hT
          obtain ⟨v1, rfl, ho1⟩ := hT
          obtain ⟨one1, cl1, gd1⟩ := ho1.v.one
          have hc2 : checkB (ht + n) fs = true := check_height hc (by omega) (by omega)
          simp +contextual only [g1, n0, n0', n0'', one1, cl1, gd1, ↓wpA1, ↓wpA2, ↓wpA3, wpB1, wpB2, wpB3, wpB4, wpB5, wpB6, repeatV, RX.evs, spl, over, ones, Ex.ends, evR, oneOf, Option.isSome_some, Option.getD_some, if_true, if_false, true_and, and_true, List.getElem?_cons_zero, List.getElem?_cons_succ, List.length_cons, List.length_nil, List.drop_zero, List.drop_succ_cons, List.take_succ_cons, List.take_zero, List.cons_append, List.nil_append, Option.some.injEq, exists_eq_left', top, List.cons.injEq, ↓reduceIte, Nat.reduceEqDiff, Nat.reduceLeDiff, Nat.reduceAdd, Nat.reduceSub, Nat.reduceMul, reduceCtorEq, Nat.succ_ne_zero, imp_T, imp_F, List.getElem?_nil, Int.reduceEq, Int.reduceLT, Int.reduceLE, Int.reduceNeg, Int.reduceAdd, Int.reduceSub, decide_true, decide_false, eq_self, not_true_eq_false, not_false_eq_true, ite_true, ite_false]
          have hxa : Ext h2 ((h2.new (.ofL [.int .i64 0, .nilslice] 0 false)).set (pa h2.next) (.ofL [.int .i64 (ht + n), v1] 0 false)) := ((Ext.refl h2).new _).set (by omega) _
          refine callK_intro (pop_api n (ht + n) v1 fs _ (ho1.v.ext hxa)) ?_
          rintro y h3 ⟨hT, hx4⟩
          have hx5 := hxa.trans hx4
          have hx05 := (hx2.trans hx3).trans hx5
          have g2 : h3.get (pa h.next) = .ofL [.int .i64 ht, v] 0 false := by
            rw [hx5.get _ (old_lt (by omega)), g1]
          have nx3 : h2.next + 1 ≤ h3.next := hx4.next
          have m0' : (h3.next = h.next) = False := eq_false (by omega)
          have m0'' : (h.next = h3.next) = False := eq_false (by omega)
          unfold Told at hT
          rw [hc2, decide_eq_true hn0, Bool.and_self, if_pos rfl] at hT
          have hnb : ¬ (ht + n - (lastF fs).base < n) := by omega
          have ep : popT n (ht + n) fs = (0, ht, fs) := by
            simp only [popT, hnb, false_and, if_false]
            congr 2
            omega
          rw [ep, if_pos rfl] at hT
          obtain ⟨v2, rfl, ho2⟩ := hT
          simp only at ho2
          obtain ⟨one2, cl2, gd2⟩ := ho2.v.one
          simp +contextual only [g2, m0', m0'', one2, cl2, gd2, ↓wpA1, ↓wpA2, ↓wpA3, wpB1, wpB2, wpB3, wpB4, wpB5, wpB6, repeatV, RX.evs, spl, over, ones, Ex.ends, evR, oneOf, Option.isSome_some, Option.getD_some, if_true, if_false, true_and, and_true, List.getElem?_cons_zero, List.getElem?_cons_succ, List.length_cons, List.length_nil, List.drop_zero, List.drop_succ_cons, List.take_succ_cons, List.take_zero, List.cons_append, List.nil_append, Option.some.injEq, exists_eq_left', top, List.cons.injEq, ↓reduceIte, Nat.reduceEqDiff, Nat.reduceLeDiff, Nat.reduceAdd, Nat.reduceSub, Nat.reduceMul, reduceCtorEq, Nat.succ_ne_zero, imp_T, imp_F, List.getElem?_nil, Int.reduceEq, Int.reduceLT, Int.reduceLE, Int.reduceNeg, Int.reduceAdd, Int.reduceSub, decide_true, decide_false, eq_self, not_true_eq_false, not_false_eq_true, ite_true, ite_false]
          have hxb : Ext h3 ((h3.new (.ofL [.int .i64 0, .nilslice] 0 false)).set (pa h3.next) (.ofL [.int .i64 ht, v2] 0 false)) := ((Ext.refl h3).new _).set (by omega) _
          refine callK_intro (same_ctr ht ht v2 v fs fs _ (ho2.v.ext hxb) (hv.ext (hx05.trans hxb)) (by omega)) ?_
          rintro y h4 ⟨rfl, hx6⟩
          rw [decide_eq_true rfl, eqFs_self]
          have hx7 := hxb.trans hx6
          have nx4 : h3.next + 1 ≤ h4.next := hx6.next
          have g3 : h4.get (pa h.next) = .ofL [.int .i64 ht, v] 0 false := by
            rw [hx7.get _ (old_lt (by omega)), g2]
          have k0' : (h4.next = h.next) = False := eq_false (by omega)
          simp +contextual only [g3, k0', ↓wpA1, ↓wpA2, ↓wpA3, wpB1, wpB2, wpB3, wpB4, wpB5, wpB6, repeatV, RX.evs, spl, over, ones, Ex.ends, evR, oneOf, Option.isSome_some, Option.getD_some, if_true, if_false, true_and, and_true, List.getElem?_cons_zero, List.getElem?_cons_succ, List.length_cons, List.length_nil, List.drop_zero, List.drop_succ_cons, List.take_succ_cons, List.take_zero, List.cons_append, List.nil_append, Option.some.injEq, exists_eq_left', top, List.cons.injEq, ↓reduceIte, Nat.reduceEqDiff, Nat.reduceLeDiff, Nat.reduceAdd, Nat.reduceSub, Nat.reduceMul, reduceCtorEq, Nat.succ_ne_zero, imp_T, imp_F, List.getElem?_nil, Int.reduceEq, Int.reduceLT, Int.reduceLE, Int.reduceNeg, Int.reduceAdd, Int.reduceSub, decide_true, decide_false, eq_self, not_true_eq_false, not_false_eq_true, ite_true, ite_false]
          refine callK_intro (pop_api n ht v fs h4 (hv.ext (hx05.trans hx7))) ?_
          rintro y h5 ⟨hT, hx8⟩
          have nx5 := hx8.next
          have g4 : h5.get (pa h.next) = .ofL [.int .i64 ht, v] 0 false := by
            rw [hx8.get _ (old_lt (by omega)), g3]
          have j0' : (h5.next = h.next) = False := eq_false (by omega)
          unfold Told at hT
          rw [hc, decide_eq_true hn0, Bool.and_self, if_pos rfl] at hT
          by_cases he : (popT n ht fs).1 = 0
          · rw [if_pos he] at hT
            obtain ⟨v3, rfl, ho3⟩ := hT
            obtain ⟨one3, cl3, gd3⟩ := ho3.v.one
            have hp : ¬ (ht - (lastF fs).base < n ∧ (lastF fs).dead = false) := by
              intro q
              simp [popT, q] at he
            have e2 : (popT n ht fs).2 = (ht - (if ht - (lastF fs).base < n then ht - (lastF fs).base else n), fs) := by simp only [popT, if_neg hp]
            rw [e2] at ho3 ⊢
            simp only at ho3 ⊢
            have hle : (lastF fs).base ≤ ht - (if ht - (lastF fs).base < n then ht - (lastF fs).base else n) ∧ ht - (if ht - (lastF fs).base < n then ht - (lastF fs).base else n) ≤ ht := by
              split <;> omega
            generalize (ht - (if ht - (lastF fs).base < n then ht - (lastF fs).base else n)) = ht' at ho3 hle ⊢
            have hc3 : checkB ht' fs = true := check_height hc hle.1 (by omega)
            simp +contextual only [g4, j0', one3, cl3, gd3, ↓wpA1, ↓wpA2, ↓wpA3, wpB1, wpB2, wpB3, wpB4, wpB5, wpB6, repeatV, RX.evs, spl, over, ones, Ex.ends, evR, oneOf, Option.isSome_some, Option.getD_some, if_true, if_false, true_and, and_true, List.getElem?_cons_zero, List.getElem?_cons_succ, List.length_cons, List.length_nil, List.drop_zero, List.drop_succ_cons, List.take_succ_cons, List.take_zero, List.cons_append, List.nil_append, Option.some.injEq, exists_eq_left', top, List.cons.injEq, ↓reduceIte, Nat.reduceEqDiff, Nat.reduceLeDiff, Nat.reduceAdd, Nat.reduceSub, Nat.reduceMul, reduceCtorEq, Nat.succ_ne_zero, imp_T, imp_F, List.getElem?_nil, Int.reduceEq, Int.reduceLT, Int.reduceLE, Int.reduceNeg, Int.reduceAdd, Int.reduceSub, decide_true, decide_false, eq_self, not_true_eq_false, not_false_eq_true, ite_true, ite_false]
            have hxc : Ext h5 ((h5.new (.ofL [.int .i64 0, .nilslice] 0 false)).set (pa h5.next) (.ofL [.int .i64 ht', v3] 0 false)) := ((Ext.refl h5).new _).set (by omega) _
            refine callK_intro (check_ctr ht' v3 fs _ (ho3.v.ext hxc)) ?_
            rintro y h6 ⟨rfl, hx9⟩
            have nx6 : h5.next + 1 ≤ h6.next := hx9.next
            have g5 : h6.get (pa h.next) = .ofL [.int .i64 ht, v] 0 false := by
              rw [hx9.get _ (old_lt (by simp only [next_new, next_set]; omega))]
              simp only [g4, j0', ↓wpA1, ↓wpA2, ↓wpA3, wpB1, wpB2, wpB3, wpB4, wpB5, wpB6, repeatV, RX.evs, spl, over, ones, Ex.ends, evR, oneOf, Option.isSome_some, Option.getD_some, if_true, if_false, true_and, and_true, List.getElem?_cons_zero, List.getElem?_cons_succ, List.length_cons, List.length_nil, List.drop_zero, List.drop_succ_cons, List.take_succ_cons, List.take_zero, List.cons_append, List.nil_append, Option.some.injEq, exists_eq_left', top, List.cons.injEq, ↓reduceIte, Nat.reduceEqDiff, Nat.reduceLeDiff, Nat.reduceAdd, Nat.reduceSub, Nat.reduceMul, reduceCtorEq, Nat.succ_ne_zero, imp_T, imp_F, List.getElem?_nil, Int.reduceEq, Int.reduceLT, Int.reduceLE, Int.reduceNeg, Int.reduceAdd, Int.reduceSub, decide_true, decide_false, eq_self, not_true_eq_false, not_false_eq_true, ite_true, ite_false]
            have g6 : h6.get (pa h5.next) = .ofL [.int .i64 ht', v3] 0 false := by
              rw [hx9.get _ (old_lt (by simp only [next_new, next_set]; omega))]
              simp only [↓wpA1, ↓wpA2, ↓wpA3, wpB1, wpB2, wpB3, wpB4, wpB5, wpB6, repeatV, RX.evs, spl, over, ones, Ex.ends, evR, oneOf, Option.isSome_some, Option.getD_some, if_true, if_false, true_and, and_true, List.getElem?_cons_zero, List.getElem?_cons_succ, List.length_cons, List.length_nil, List.drop_zero, List.drop_succ_cons, List.take_succ_cons, List.take_zero, List.cons_append, List.nil_append, Option.some.injEq, exists_eq_left', top, List.cons.injEq, ↓reduceIte, Nat.reduceEqDiff, Nat.reduceLeDiff, Nat.reduceAdd, Nat.reduceSub, Nat.reduceMul, reduceCtorEq, Nat.succ_ne_zero, imp_T, imp_F, List.getElem?_nil, Int.reduceEq, Int.reduceLT, Int.reduceLE, Int.reduceNeg, Int.reduceAdd, Int.reduceSub, decide_true, decide_false, eq_self, not_true_eq_false, not_false_eq_true, ite_true, ite_false]
            have hle2 : (ht' ≤ ht) = True := eq_true hle.2
            simp +contextual only [hc3, hle2, g5, g6, ↓wpA1, ↓wpA2, ↓wpA3, wpB1, wpB2, wpB3, wpB4, wpB5, wpB6, repeatV, RX.evs, spl, over, ones, Ex.ends, evR, oneOf, Option.isSome_some, Option.getD_some, if_true, if_false, true_and, and_true, List.getElem?_cons_zero, List.getElem?_cons_succ, List.length_cons, List.length_nil, List.drop_zero, List.drop_succ_cons, List.take_succ_cons, List.take_zero, List.cons_append, List.nil_append, Option.some.injEq, exists_eq_left', top, List.cons.injEq, ↓reduceIte, Nat.reduceEqDiff, Nat.reduceLeDiff, Nat.reduceAdd, Nat.reduceSub, Nat.reduceMul, reduceCtorEq, Nat.succ_ne_zero, imp_T, imp_F, List.getElem?_nil, Int.reduceEq, Int.reduceLT, Int.reduceLE, Int.reduceNeg, Int.reduceAdd, Int.reduceSub, decide_true, decide_false, eq_self, not_true_eq_false, not_false_eq_true, ite_true, ite_false]
          · rw [if_neg he] at hT
            subst hT
            have he' : ((popT n ht fs).1 = 0) = False := eq_false he
            simp +contextual only [zeroS, he', g4, j0', ↓wpA1, ↓wpA2, ↓wpA3, wpB1, wpB2, wpB3, wpB4, wpB5, wpB6, repeatV, RX.evs, spl, over, ones, Ex.ends, evR, oneOf, Option.isSome_some, Option.getD_some, if_true, if_false, true_and, and_true, List.getElem?_cons_zero, List.getElem?_cons_succ, List.length_cons, List.length_nil, List.drop_zero, List.drop_succ_cons, List.take_succ_cons, List.take_zero, List.cons_append, List.nil_append, Option.some.injEq, exists_eq_left', top, List.cons.injEq, ↓reduceIte, Nat.reduceEqDiff, Nat.reduceLeDiff, Nat.reduceAdd, Nat.reduceSub, Nat.reduceMul, reduceCtorEq, Nat.succ_ne_zero, imp_T, imp_F, List.getElem?_nil, Int.reduceEq, Int.reduceLT, Int.reduceLE, Int.reduceNeg, Int.reduceAdd, Int.reduceSub, decide_true, decide_false, eq_self, not_true_eq_false, not_false_eq_true, ite_true, ite_false]
end Go.Proofs.Ytkjifhoiiciblaa

namespace Go.Proofs.Ytkjifhoiiciblaa
open Go Am
set_option linter.unusedSimpArgs false
set_option linter.unusedVariables false

theorem okFrom_snoc {ht : Int} {f : Fm} (hl : isList f.op = true) (h1 : f.base ≤ ht) (h2 : 0 ≤ f.res) (h3 : f.res ≤ 1) : ∀ {fs : List Fm} {i : Nat} {base : Int}, okFrom ht i base fs = true → (∀ g ∈ fs, g.base ≤ f.base) → base ≤ f.base → 1 ≤ i + fs.length → okFrom ht i base (fs ++ [f]) = true
  | [], i, base, _, _, hb, hi => by
    have c1 : decide (i = 0) = false := decide_eq_false (by simp at hi; omega)
    have c2 : decide (f.base < base) = false := decide_eq_false (by omega)
    have c3 : decide (ht < f.base) = false := decide_eq_false (by omega)
    have c4 : decide (f.res < 0) = false := decide_eq_false (by omega)
    have c5 : decide (1 < f.res) = false := decide_eq_false (by omega)
    simp only [List.nil_append, okFrom, c1, c2, c3, c4, c5, hl]
    rfl
  | g :: fs, i, base, h, hg, hb, hi => by
    simp only [List.cons_append, okFrom, Bool.and_eq_true] at h ⊢
    exact ⟨h.1, okFrom_snoc hl h1 h2 h3 h.2 (fun x hx => hg x (by simp [hx])) (hg g (by simp)) (by omega)⟩
theorem lastF_snoc (fs : List Fm) (f : Fm) : lastF (fs ++ [f]) = f := by
  unfold lastF
  simp
theorem check_snoc {ht : Int} {fs : List Fm} {f : Fm} (h : checkB ht fs = true) (hn : fs.length < 1000) (hl : isList f.op = true) (hb : f.base = ht) (h2 : 0 ≤ f.res) (h3 : f.res ≤ 1) : checkB ht (fs ++ [f]) = true := by
  have hb' := check_last h
  obtain ⟨k1, k2, k3, k4⟩ := check_len h
  unfold checkB at h ⊢
  simp only [Bool.and_eq_true] at h ⊢
  have hh := okFrom_last h.2
  refine ⟨?_, okFrom_snoc hl (by omega) h2 h3 h.2 (fun g hg => by have := hh g hg; omega) (by omega) (by omega)⟩
  have h3 := h.1
  simp at h3 ⊢
  omega

/-- the law StackLists -/
theorem stackLists (op res n : Int) (dead : Bool) (x : V) (ht : Int) (v : V) (len : Nat) (h : Heap) (hs : Std h x ht v len) (hop : True) : Ctr Try.prog 5 [x, .int .i64 op, .int .i64 res, .int .i64 n, .bool dead] h fun y _ => y = .bool true := by
  obtain ⟨rfl, one0, cl0, gd0, hl, hfs⟩ := hs
  refine c5_ctr rfl (wpK_of ?_)
  unfold c5
  simp +contextual only [one0, cl0, gd0, ↓wpA1, ↓wpA2, ↓wpA3, wpB1, wpB2, wpB3, wpB4, wpB5, wpB6, repeatV, RX.evs, spl, over, ones, Ex.ends, evR, oneOf, Option.isSome_some, Option.getD_some, if_true, if_false, true_and, and_true, List.getElem?_cons_zero, List.getElem?_cons_succ, List.length_cons, List.length_nil, List.drop_zero, List.drop_succ_cons, List.take_succ_cons, List.take_zero, List.cons_append, List.nil_append, Option.some.injEq, exists_eq_left', top, List.cons.injEq, ↓reduceIte, Nat.reduceEqDiff, Nat.reduceLeDiff, Nat.reduceAdd, Nat.reduceSub, Nat.reduceMul, reduceCtorEq, Nat.succ_ne_zero, imp_T, imp_F, List.getElem?_nil, Int.reduceEq, Int.reduceLT, Int.reduceLE, Int.reduceNeg, Int.reduceAdd, Int.reduceSub, decide_true, decide_false, eq_self, not_true_eq_false, not_false_eq_true, ite_true, ite_false]
  refine callK_pure (awake_calls _) ?_
  have hx : Ext h (h.new (.ofL [.int .i64 ht, v] 0 false)) := (Ext.refl h).new _
  by_cases hb : n < 0 ∨ 1000 < n ∨ 536870912 < ht
  · have hb' : (decide (n < 0) || decide (1000 < n) || decide (536870912 < ht)) = true := by simp; omega
    simp +contextual only [hb', one0, cl0, gd0, ↓wpA1, ↓wpA2, ↓wpA3, wpB1, wpB2, wpB3, wpB4, wpB5, wpB6, repeatV, RX.evs, spl, over, ones, Ex.ends, evR, oneOf, Option.isSome_some, Option.getD_some, if_true, if_false, true_and, and_true, List.getElem?_cons_zero, List.getElem?_cons_succ, List.length_cons, List.length_nil, List.drop_zero, List.drop_succ_cons, List.take_succ_cons, List.take_zero, List.cons_append, List.nil_append, Option.some.injEq, exists_eq_left', top, List.cons.injEq, ↓reduceIte, Nat.reduceEqDiff, Nat.reduceLeDiff, Nat.reduceAdd, Nat.reduceSub, Nat.reduceMul, reduceCtorEq, Nat.succ_ne_zero, imp_T, imp_F, List.getElem?_nil, Int.reduceEq, Int.reduceLT, Int.reduceLE, Int.reduceNeg, Int.reduceAdd, Int.reduceSub, decide_true, decide_false, eq_self, not_true_eq_false, not_false_eq_true, ite_true, ite_false]
  have hb' : (decide (n < 0) || decide (1000 < n) || decide (536870912 < ht)) = false := by simp; omega
  simp +contextual only [hb', one0, cl0, gd0, ↓wpA1, ↓wpA2, ↓wpA3, wpB1, wpB2, wpB3, wpB4, wpB5, wpB6, repeatV, RX.evs, spl, over, ones, Ex.ends, evR, oneOf, Option.isSome_some, Option.getD_some, if_true, if_false, true_and, and_true, List.getElem?_cons_zero, List.getElem?_cons_succ, List.length_cons, List.length_nil, List.drop_zero, List.drop_succ_cons, List.take_succ_cons, List.take_zero, List.cons_append, List.nil_append, Option.some.injEq, exists_eq_left', top, List.cons.injEq, ↓reduceIte, Nat.reduceEqDiff, Nat.reduceLeDiff, Nat.reduceAdd, Nat.reduceSub, Nat.reduceMul, reduceCtorEq, Nat.succ_ne_zero, imp_T, imp_F, List.getElem?_nil, Int.reduceEq, Int.reduceLT, Int.reduceLE, Int.reduceNeg, Int.reduceAdd, Int.reduceSub, decide_true, decide_false, eq_self, not_true_eq_false, not_false_eq_true, ite_true, ite_false]
  by_cases hlen : 1000 < len
  · refine callK_intro (enter_long op res ht v len _ one0 cl0 gd0 hl hlen) ?_
    rintro x h1 ⟨rfl, hx1⟩
    have g0 : h1.get (pa h.next) = .ofL [.int .i64 ht, v] 0 false := by
      rw [hx1.get _ (old_lt (by simp only [next_new]; omega))]
      simp only [↓wpA1, ↓wpA2, ↓wpA3, wpB1, wpB2, wpB3, wpB4, wpB5, wpB6, repeatV, RX.evs, spl, over, ones, Ex.ends, evR, oneOf, Option.isSome_some, Option.getD_some, if_true, if_false, true_and, and_true, List.getElem?_cons_zero, List.getElem?_cons_succ, List.length_cons, List.length_nil, List.drop_zero, List.drop_succ_cons, List.take_succ_cons, List.take_zero, List.cons_append, List.nil_append, Option.some.injEq, exists_eq_left', top, List.cons.injEq, ↓reduceIte, Nat.reduceEqDiff, Nat.reduceLeDiff, Nat.reduceAdd, Nat.reduceSub, Nat.reduceMul, reduceCtorEq, Nat.succ_ne_zero, imp_T, imp_F, List.getElem?_nil, Int.reduceEq, Int.reduceLT, Int.reduceLE, Int.reduceNeg, Int.reduceAdd, Int.reduceSub, decide_true, decide_false, eq_self, not_true_eq_false, not_false_eq_true, ite_true, ite_false]
    simp +contextual only [zeroS, g0, ↓wpA1, ↓wpA2, ↓wpA3, wpB1, wpB2, wpB3, wpB4, wpB5, wpB6, repeatV, RX.evs, spl, over, ones, Ex.ends, evR, oneOf, Option.isSome_some, Option.getD_some, if_true, if_false, true_and, and_true, List.getElem?_cons_zero, List.getElem?_cons_succ, List.length_cons, List.length_nil, List.drop_zero, List.drop_succ_cons, List.take_succ_cons, List.take_zero, List.cons_append, List.nil_append, Option.some.injEq, exists_eq_left', top, List.cons.injEq, ↓reduceIte, Nat.reduceEqDiff, Nat.reduceLeDiff, Nat.reduceAdd, Nat.reduceSub, Nat.reduceMul, reduceCtorEq, Nat.succ_ne_zero, imp_T, imp_F, List.getElem?_nil, Int.reduceEq, Int.reduceLT, Int.reduceLE, Int.reduceNeg, Int.reduceAdd, Int.reduceSub, decide_true, decide_false, eq_self, not_true_eq_false, not_false_eq_true, ite_true, ite_false]
  · obtain ⟨fs, rfl, hv⟩ := hfs (by omega)
    refine callK_intro (enter_api op res ht v fs _ (hv.ext hx)) ?_
    rintro x h1 ⟨hT, hx1⟩
    have n1 : h.next + 1 ≤ h1.next := hx1.next
    have g0 : h1.get (pa h.next) = .ofL [.int .i64 ht, v] 0 false := by
      rw [hx1.get _ (old_lt (by simp only [next_new]; omega))]
      simp only [↓wpA1, ↓wpA2, ↓wpA3, wpB1, wpB2, wpB3, wpB4, wpB5, wpB6, repeatV, RX.evs, spl, over, ones, Ex.ends, evR, oneOf, Option.isSome_some, Option.getD_some, if_true, if_false, true_and, and_true, List.getElem?_cons_zero, List.getElem?_cons_succ, List.length_cons, List.length_nil, List.drop_zero, List.drop_succ_cons, List.take_succ_cons, List.take_zero, List.cons_append, List.nil_append, Option.some.injEq, exists_eq_left', top, List.cons.injEq, ↓reduceIte, Nat.reduceEqDiff, Nat.reduceLeDiff, Nat.reduceAdd, Nat.reduceSub, Nat.reduceMul, reduceCtorEq, Nat.succ_ne_zero, imp_T, imp_F, List.getElem?_nil, Int.reduceEq, Int.reduceLT, Int.reduceLE, Int.reduceNeg, Int.reduceAdd, Int.reduceSub, decide_true, decide_false, eq_self, not_true_eq_false, not_false_eq_true, ite_true, ite_false]
    have q1 : (h1.next = h.next) = False := eq_false (by omega)
    have q2 : (h.next = h1.next) = False := eq_false (by omega)
    unfold Told at hT
    by_cases hf : (isList op && decide (0 ≤ res) && decide (res ≤ 1) && checkB ht fs) = true
    case neg =>
      rw [if_neg hf] at hT
      subst hT
      simp +contextual only [zeroS, g0, q1, q2, ↓wpA1, ↓wpA2, ↓wpA3, wpB1, wpB2, wpB3, wpB4, wpB5, wpB6, repeatV, RX.evs, spl, over, ones, Ex.ends, evR, oneOf, Option.isSome_some, Option.getD_some, if_true, if_false, true_and, and_true, List.getElem?_cons_zero, List.getElem?_cons_succ, List.length_cons, List.length_nil, List.drop_zero, List.drop_succ_cons, List.take_succ_cons, List.take_zero, List.cons_append, List.nil_append, Option.some.injEq, exists_eq_left', top, List.cons.injEq, ↓reduceIte, Nat.reduceEqDiff, Nat.reduceLeDiff, Nat.reduceAdd, Nat.reduceSub, Nat.reduceMul, reduceCtorEq, Nat.succ_ne_zero, imp_T, imp_F, List.getElem?_nil, Int.reduceEq, Int.reduceLT, Int.reduceLE, Int.reduceNeg, Int.reduceAdd, Int.reduceSub, decide_true, decide_false, eq_self, not_true_eq_false, not_false_eq_true, ite_true, ite_false]
    rw [if_pos hf] at hT
    have hc : checkB ht fs = true := by simp only [Bool.and_eq_true] at hf; exact hf.2
    have hr : 0 ≤ res ∧ res ≤ 1 := by simp only [Bool.and_eq_true, decide_eq_true_eq] at hf; omega
    have hlist : isList op = true := by simp only [Bool.and_eq_true] at hf; exact hf.1.1.1
    obtain ⟨l1, l2, l3, l4⟩ := check_len hc
    obtain ⟨b1, b2, b3, b4⟩ := check_last hc
    by_cases hl2 : 1000 ≤ fs.length
    · have e : enterT op res ht fs = (8, 0, []) := by simp [enterT, hl2]
      rw [e] at hT
      rw [if_neg (by decide)] at hT
      subst hT
      simp +contextual only [zeroS, g0, q1, q2, ↓wpA1, ↓wpA2, ↓wpA3, wpB1, wpB2, wpB3, wpB4, wpB5, wpB6, repeatV, RX.evs, spl, over, ones, Ex.ends, evR, oneOf, Option.isSome_some, Option.getD_some, if_true, if_false, true_and, and_true, List.getElem?_cons_zero, List.getElem?_cons_succ, List.length_cons, List.length_nil, List.drop_zero, List.drop_succ_cons, List.take_succ_cons, List.take_zero, List.cons_append, List.nil_append, Option.some.injEq, exists_eq_left', top, List.cons.injEq, ↓reduceIte, Nat.reduceEqDiff, Nat.reduceLeDiff, Nat.reduceAdd, Nat.reduceSub, Nat.reduceMul, reduceCtorEq, Nat.succ_ne_zero, imp_T, imp_F, List.getElem?_nil, Int.reduceEq, Int.reduceLT, Int.reduceLE, Int.reduceNeg, Int.reduceAdd, Int.reduceSub, decide_true, decide_false, eq_self, not_true_eq_false, not_false_eq_true, ite_true, ite_false]
    have e : enterT op res ht fs = (0, ht, fs ++ [⟨op, ht, res, false⟩]) := by simp [enterT, hl2]
    rw [e, if_pos rfl] at hT
    obtain ⟨v1, rfl, ho1⟩ := hT
    simp only at ho1
    obtain ⟨one1, cl1, gd1⟩ := ho1.v.one

    have cF : ∀ d, checkB ht (fs ++ [⟨op, ht, res, d⟩]) = true := fun d => check_snoc hc (by omega) hlist rfl hr.1 hr.2
    have cG : ∀ d, checkB (ht + n) (fs ++ [⟨op, ht, res, d⟩]) = true := fun d => check_height (cF d) (by rw [lastF_snoc]; show ht ≤ ht + n; omega) (by omega)
    have ePush : ∀ d, pushT n ht (fs ++ [⟨op, ht, res, d⟩]) = (0, ht + n, fs ++ [⟨op, ht, res, d⟩]) := fun d => by
      have : ¬ (1073741824 - ht < n) := by omega
      simp [pushT, this]
    have ePush2 : pushT res ht fs = (0, ht + res, fs) := by
      have : ¬ (1073741824 - ht < res) := by omega
      simp [pushT, this]
    have eDead : deadT ht (fs ++ [⟨op, ht, res, false⟩]) = (0, ht, fs ++ [⟨op, ht, res, true⟩]) := by
      unfold deadT
      rw [lastF_snoc]
      simp
    have eLeave : ∀ d, leaveT (ht + n) (fs ++ [⟨op, ht, res, d⟩]) = if n < res ∧ d = false then (200, 0, []) else if res < n then (201, 0, []) else (0, ht + res, fs) := fun d => by
      unfold leaveT popT
      rw [lastF_snoc]
      simp only
      have e0 : ht + n - ht = n := by omega
      rw [e0]
      by_cases h1 : n < res ∧ d = false
      · simp [h1]
      · rw [if_neg h1, if_neg h1]
        simp only [ne_eq, not_true_eq_false, if_false]
        by_cases h2 : res < n
        · have h3 : ¬ n < res := by omega
          have h4 : ht < ht + n - res := by omega
          simp [h2, h3, h4]
        · have h4 : ¬ (ht < ht + n - (if n < res then n else res)) := by split <;> omega
          have h5 : ht + n - (if n < res then n else res) + res = ht + res := by split <;> omega
          rw [if_neg h4, if_neg h2, h5]
          simp
    have hxA : Ext h1 ((h1.new (.ofL [.int .i64 0, .nilslice] 0 false)).set (pa h1.next) (.ofL [.int .i64 ht, v1] 0 false)) := ((Ext.refl _).new _).set (by omega) _
    have hx01 := hx.trans hx1
    cases dead with
    | true =>
      simp +contextual only [g0, q1, q2, one1, cl1, gd1, ↓wpA1, ↓wpA2, ↓wpA3, wpB1, wpB2, wpB3, wpB4, wpB5, wpB6, repeatV, RX.evs, spl, over, ones, Ex.ends, evR, oneOf, Option.isSome_some, Option.getD_some, if_true, if_false, true_and, and_true, List.getElem?_cons_zero, List.getElem?_cons_succ, List.length_cons, List.length_nil, List.drop_zero, List.drop_succ_cons, List.take_succ_cons, List.take_zero, List.cons_append, List.nil_append, Option.some.injEq, exists_eq_left', top, List.cons.injEq, ↓reduceIte, Nat.reduceEqDiff, Nat.reduceLeDiff, Nat.reduceAdd, Nat.reduceSub, Nat.reduceMul, reduceCtorEq, Nat.succ_ne_zero, imp_T, imp_F, List.getElem?_nil, Int.reduceEq, Int.reduceLT, Int.reduceLE, Int.reduceNeg, Int.reduceAdd, Int.reduceSub, decide_true, decide_false, eq_self, not_true_eq_false, not_false_eq_true, ite_true, ite_false]
      refine callK_intro (dead_api ht v1 _ _ (ho1.v.ext hxA)) ?_
      rintro x h2 ⟨hT, hx2⟩
      unfold Told at hT
      rw [cF false, Bool.and_self, if_pos rfl, eDead, if_pos rfl] at hT
      obtain ⟨v2, rfl, ho2⟩ := hT
      simp only at ho2
      obtain ⟨one2, cl2, gd2⟩ := ho2.v.one
      have n2 : h1.next + 1 ≤ h2.next := hx2.next
      have g1 : h2.get (pa h.next) = .ofL [.int .i64 ht, v] 0 false := by
        rw [(hxA.trans hx2).get _ (old_lt (by omega)), g0]
      have g2 : h2.get (pa h1.next) = .ofL [.int .i64 ht, v1] 0 false := by
        rw [hx2.get _ (old_lt (by simp only [next_new, next_set]; omega))]
        simp only [↓wpA1, ↓wpA2, ↓wpA3, wpB1, wpB2, wpB3, wpB4, wpB5, wpB6, repeatV, RX.evs, spl, over, ones, Ex.ends, evR, oneOf, Option.isSome_some, Option.getD_some, if_true, if_false, true_and, and_true, List.getElem?_cons_zero, List.getElem?_cons_succ, List.length_cons, List.length_nil, List.drop_zero, List.drop_succ_cons, List.take_succ_cons, List.take_zero, List.cons_append, List.nil_append, Option.some.injEq, exists_eq_left', top, List.cons.injEq, ↓reduceIte, Nat.reduceEqDiff, Nat.reduceLeDiff, Nat.reduceAdd, Nat.reduceSub, Nat.reduceMul, reduceCtorEq, Nat.succ_ne_zero, imp_T, imp_F, List.getElem?_nil, Int.reduceEq, Int.reduceLT, Int.reduceLE, Int.reduceNeg, Int.reduceAdd, Int.reduceSub, decide_true, decide_false, eq_self, not_true_eq_false, not_false_eq_true, ite_true, ite_false]
      have hxB := hxA.trans hx2
      simp +contextual only [g1, g2, q1, q2, one2, cl2, gd2, ↓wpA1, ↓wpA2, ↓wpA3, wpB1, wpB2, wpB3, wpB4, wpB5, wpB6, repeatV, RX.evs, spl, over, ones, Ex.ends, evR, oneOf, Option.isSome_some, Option.getD_some, if_true, if_false, true_and, and_true, List.getElem?_cons_zero, List.getElem?_cons_succ, List.length_cons, List.length_nil, List.drop_zero, List.drop_succ_cons, List.take_succ_cons, List.take_zero, List.cons_append, List.nil_append, Option.some.injEq, exists_eq_left', top, List.cons.injEq, ↓reduceIte, Nat.reduceEqDiff, Nat.reduceLeDiff, Nat.reduceAdd, Nat.reduceSub, Nat.reduceMul, reduceCtorEq, Nat.succ_ne_zero, imp_T, imp_F, List.getElem?_nil, Int.reduceEq, Int.reduceLT, Int.reduceLE, Int.reduceNeg, Int.reduceAdd, Int.reduceSub, decide_true, decide_false, eq_self, not_true_eq_false, not_false_eq_true, ite_true, ite_false]
      generalize ek : (h2.set (pa h1.next) (.ofL [.int .i64 ht, v2] 0 false)) = k
      have hmk : Mod (fun b => b = pa h1.next) h2 k := by rw [← ek]; exact (Mod.refl (fun b => b = pa h1.next) h2).set (fun _ => rfl) _
      have hxk : Ext h1 k := by rw [← ek]; exact hxB.set (Nat.le_refl _) _
      have nk : h1.next + 1 ≤ k.next := by rw [← ek]; exact n2
      have kS : k.get (pa h.next) = .ofL [.int .i64 ht, v] 0 false := by rw [hxk.get _ (old_lt (by omega)), g0]
      have kA : k.get (pa h1.next) = .ofL [.int .i64 ht, v2] 0 false := by rw [← ek, get_set, if_pos rfl]
      have ko : SlV k 4 v2 (fs ++ [(⟨op, ht, res, true⟩ : Fm)]).length (encs (fs ++ [⟨op, ht, res, true⟩])) := ho2.v.mod hmk fun b hb q => by
        have := ho2.base hb
        simp only [next_new, next_set] at this
        rw [q, unPa_pa] at this
        omega
      clear ek
      refine callK_intro (push_api n ht v2 _ k ko) ?_
      rintro x p ⟨hT, hxp⟩
      unfold Told at hT
      rw [cF true, decide_eq_true (show 0 ≤ n by omega), Bool.and_self, if_pos rfl, ePush, if_pos rfl] at hT
      obtain ⟨v3, rfl, ho3⟩ := hT
      simp only at ho3
      obtain ⟨one3, cl3, gd3⟩ := ho3.v.one
      have np := hxp.next
      have pS : p.get (pa h.next) = .ofL [.int .i64 ht, v] 0 false := by rw [hxp.get _ (old_lt (by omega)), kS]
      have q3 : (p.next = h.next) = False := eq_false (by omega)
      have q4 : (h.next = p.next) = False := eq_false (by omega)
      simp +contextual only [pS, q1, q2, q3, q4, one3, cl3, gd3, ↓wpA1, ↓wpA2, ↓wpA3, wpB1, wpB2, wpB3, wpB4, wpB5, wpB6, repeatV, RX.evs, spl, over, ones, Ex.ends, evR, oneOf, Option.isSome_some, Option.getD_some, if_true, if_false, true_and, and_true, List.getElem?_cons_zero, List.getElem?_cons_succ, List.length_cons, List.length_nil, List.drop_zero, List.drop_succ_cons, List.take_succ_cons, List.take_zero, List.cons_append, List.nil_append, Option.some.injEq, exists_eq_left', top, List.cons.injEq, ↓reduceIte, Nat.reduceEqDiff, Nat.reduceLeDiff, Nat.reduceAdd, Nat.reduceSub, Nat.reduceMul, reduceCtorEq, Nat.succ_ne_zero, imp_T, imp_F, List.getElem?_nil, Int.reduceEq, Int.reduceLT, Int.reduceLE, Int.reduceNeg, Int.reduceAdd, Int.reduceSub, decide_true, decide_false, eq_self, not_true_eq_false, not_false_eq_true, ite_true, ite_false]
      have hxP : Ext p ((p.new (.ofL [.int .i64 0, .nilslice] 0 false)).set (pa p.next) (.ofL [.int .i64 (ht + n), v3] 0 false)) := ((Ext.refl _).new _).set (by omega) _
      generalize em : ((p.new (.ofL [.int .i64 0, .nilslice] 0 false)).set (pa p.next) (.ofL [.int .i64 (ht + n), v3] 0 false)) = m at hxP ⊢
      have nm : p.next + 1 ≤ m.next := by rw [← em]; exact Nat.le_refl _
      have mS : m.get (pa h.next) = .ofL [.int .i64 ht, v] 0 false := by rw [hxP.get _ (old_lt (by omega)), pS]
      clear em
      refine callK_intro (leave_api (ht + n) v3 _ m (ho3.v.ext hxP)) ?_
      rintro x l ⟨hT, hxl⟩
      have nl := hxl.next
      have lS : l.get (pa h.next) = .ofL [.int .i64 ht, v] 0 false := by rw [hxl.get _ (old_lt (by omega)), mS]
      have q5 : (l.next = h.next) = False := eq_false (by omega)
      have q6 : (h.next = l.next) = False := eq_false (by omega)
      unfold Told at hT
      rw [cG true, Bool.and_self, if_pos rfl, eLeave] at hT
      by_cases k1 : n < res ∧ (true : Bool) = false
      · simp at k1
        
        
        
        
        
      · rw [if_neg k1] at hT
        by_cases k2 : res < n
        · rw [if_pos k2, if_neg (by decide)] at hT
          subst hT
          simp +contextual only [zeroS, lS, q1, q2, q3, q4, q5, q6, k2, ↓wpA1, ↓wpA2, ↓wpA3, wpB1, wpB2, wpB3, wpB4, wpB5, wpB6, repeatV, RX.evs, spl, over, ones, Ex.ends, evR, oneOf, Option.isSome_some, Option.getD_some, if_true, if_false, true_and, and_true, List.getElem?_cons_zero, List.getElem?_cons_succ, List.length_cons, List.length_nil, List.drop_zero, List.drop_succ_cons, List.take_succ_cons, List.take_zero, List.cons_append, List.nil_append, Option.some.injEq, exists_eq_left', top, List.cons.injEq, ↓reduceIte, Nat.reduceEqDiff, Nat.reduceLeDiff, Nat.reduceAdd, Nat.reduceSub, Nat.reduceMul, reduceCtorEq, Nat.succ_ne_zero, imp_T, imp_F, List.getElem?_nil, Int.reduceEq, Int.reduceLT, Int.reduceLE, Int.reduceNeg, Int.reduceAdd, Int.reduceSub, decide_true, decide_false, eq_self, not_true_eq_false, not_false_eq_true, ite_true, ite_false]
        · rw [if_neg k2, if_pos rfl] at hT
          obtain ⟨v4, rfl, ho4⟩ := hT
          simp only at ho4
          obtain ⟨one4, cl4, gd4⟩ := ho4.v.one
          
          simp +contextual only [lS, q1, q2, q3, q4, q5, q6, k2, one4, cl4, gd4, ↓wpA1, ↓wpA2, ↓wpA3, wpB1, wpB2, wpB3, wpB4, wpB5, wpB6, repeatV, RX.evs, spl, over, ones, Ex.ends, evR, oneOf, Option.isSome_some, Option.getD_some, if_true, if_false, true_and, and_true, List.getElem?_cons_zero, List.getElem?_cons_succ, List.length_cons, List.length_nil, List.drop_zero, List.drop_succ_cons, List.take_succ_cons, List.take_zero, List.cons_append, List.nil_append, Option.some.injEq, exists_eq_left', top, List.cons.injEq, ↓reduceIte, Nat.reduceEqDiff, Nat.reduceLeDiff, Nat.reduceAdd, Nat.reduceSub, Nat.reduceMul, reduceCtorEq, Nat.succ_ne_zero, imp_T, imp_F, List.getElem?_nil, Int.reduceEq, Int.reduceLT, Int.reduceLE, Int.reduceNeg, Int.reduceAdd, Int.reduceSub, decide_true, decide_false, eq_self, not_true_eq_false, not_false_eq_true, ite_true, ite_false]
          have hxL : Ext l ((l.new (.ofL [.int .i64 0, .nilslice] 0 false)).set (pa l.next) (.ofL [.int .i64 (ht + res), v4] 0 false)) := ((Ext.refl _).new _).set (by omega) _
          generalize eo : ((l.new (.ofL [.int .i64 0, .nilslice] 0 false)).set (pa l.next) (.ofL [.int .i64 (ht + res), v4] 0 false)) = o at hxL ⊢
          have no : l.next + 1 ≤ o.next := by rw [← eo]; exact Nat.le_refl _
          have oS : o.get (pa h.next) = .ofL [.int .i64 ht, v] 0 false := by rw [hxL.get _ (old_lt (by omega)), lS]
          have oC : o.get (pa l.next) = .ofL [.int .i64 (ht + res), v4] 0 false := by rw [← eo, get_set, if_pos rfl]
          clear eo
          have hxo := ((((hx01.trans hxk).trans hxp).trans hxP).trans hxl).trans hxL
          refine callK_intro (push_api res ht v fs o (hv.ext hxo)) ?_
          rintro x w ⟨hT, hxw⟩
          have nw := hxw.next
          unfold Told at hT
          rw [hc, decide_eq_true hr.1, Bool.and_self, if_pos rfl, ePush2, if_pos rfl] at hT
          obtain ⟨v5, rfl, ho5⟩ := hT
          simp only at ho5
          obtain ⟨one5, cl5, gd5⟩ := ho5.v.one
          have wC : w.get (pa l.next) = .ofL [.int .i64 (ht + res), v4] 0 false := by rw [hxw.get _ (old_lt (by omega)), oC]
          have q7 : (w.next = l.next) = False := eq_false (by omega)
          have q8 : (l.next = w.next) = False := eq_false (by omega)
          simp +contextual only [wC, q7, q8, one5, cl5, gd5, ↓wpA1, ↓wpA2, ↓wpA3, wpB1, wpB2, wpB3, wpB4, wpB5, wpB6, repeatV, RX.evs, spl, over, ones, Ex.ends, evR, oneOf, Option.isSome_some, Option.getD_some, if_true, if_false, true_and, and_true, List.getElem?_cons_zero, List.getElem?_cons_succ, List.length_cons, List.length_nil, List.drop_zero, List.drop_succ_cons, List.take_succ_cons, List.take_zero, List.cons_append, List.nil_append, Option.some.injEq, exists_eq_left', top, List.cons.injEq, ↓reduceIte, Nat.reduceEqDiff, Nat.reduceLeDiff, Nat.reduceAdd, Nat.reduceSub, Nat.reduceMul, reduceCtorEq, Nat.succ_ne_zero, imp_T, imp_F, List.getElem?_nil, Int.reduceEq, Int.reduceLT, Int.reduceLE, Int.reduceNeg, Int.reduceAdd, Int.reduceSub, decide_true, decide_false, eq_self, not_true_eq_false, not_false_eq_true, ite_true, ite_false]
          have hxW : Ext w ((w.new (.ofL [.int .i64 0, .nilslice] 0 false)).set (pa w.next) (.ofL [.int .i64 (ht + res), v5] 0 false)) := ((Ext.refl _).new _).set (by omega) _
          refine callK_intro (same_ctr (ht + res) (ht + res) v4 v5 fs fs _ (ho4.v.ext ((hxL.trans hxw).trans hxW)) (ho5.v.ext hxW) (by omega)) ?_
          rintro x z ⟨rfl, hxz⟩
          rw [decide_eq_true rfl, eqFs_self]
          simp +contextual only [↓wpA1, ↓wpA2, ↓wpA3, wpB1, wpB2, wpB3, wpB4, wpB5, wpB6, repeatV, RX.evs, spl, over, ones, Ex.ends, evR, oneOf, Option.isSome_some, Option.getD_some, if_true, if_false, true_and, and_true, List.getElem?_cons_zero, List.getElem?_cons_succ, List.length_cons, List.length_nil, List.drop_zero, List.drop_succ_cons, List.take_succ_cons, List.take_zero, List.cons_append, List.nil_append, Option.some.injEq, exists_eq_left', top, List.cons.injEq, ↓reduceIte, Nat.reduceEqDiff, Nat.reduceLeDiff, Nat.reduceAdd, Nat.reduceSub, Nat.reduceMul, reduceCtorEq, Nat.succ_ne_zero, imp_T, imp_F, List.getElem?_nil, Int.reduceEq, Int.reduceLT, Int.reduceLE, Int.reduceNeg, Int.reduceAdd, Int.reduceSub, decide_true, decide_false, eq_self, not_true_eq_false, not_false_eq_true, ite_true, ite_false]
    | false =>
      simp +contextual only [g0, q1, q2, one1, cl1, gd1, ↓wpA1, ↓wpA2, ↓wpA3, wpB1, wpB2, wpB3, wpB4, wpB5, wpB6, repeatV, RX.evs, spl, over, ones, Ex.ends, evR, oneOf, Option.isSome_some, Option.getD_some, if_true, if_false, true_and, and_true, List.getElem?_cons_zero, List.getElem?_cons_succ, List.length_cons, List.length_nil, List.drop_zero, List.drop_succ_cons, List.take_succ_cons, List.take_zero, List.cons_append, List.nil_append, Option.some.injEq, exists_eq_left', top, List.cons.injEq, ↓reduceIte, Nat.reduceEqDiff, Nat.reduceLeDiff, Nat.reduceAdd, Nat.reduceSub, Nat.reduceMul, reduceCtorEq, Nat.succ_ne_zero, imp_T, imp_F, List.getElem?_nil, Int.reduceEq, Int.reduceLT, Int.reduceLE, Int.reduceNeg, Int.reduceAdd, Int.reduceSub, decide_true, decide_false, eq_self, not_true_eq_false, not_false_eq_true, ite_true, ite_false]
      generalize ek : ((h1.new (.ofL [.int .i64 0, .nilslice] 0 false)).set (pa h1.next) (.ofL [.int .i64 ht, v1] 0 false)) = k at hxA ⊢
      have hxk := hxA
      have nk : h1.next + 1 ≤ k.next := by rw [← ek]; exact Nat.le_refl _
      have kS : k.get (pa h.next) = .ofL [.int .i64 ht, v] 0 false := by rw [hxk.get _ (old_lt (by omega)), g0]
      have kA : k.get (pa h1.next) = .ofL [.int .i64 ht, v1] 0 false := by rw [← ek, get_set, if_pos rfl]
      have ko : SlV k 4 v1 (fs ++ [(⟨op, ht, res, false⟩ : Fm)]).length (encs (fs ++ [⟨op, ht, res, false⟩])) := ho1.v.ext hxk
      clear ek
      refine callK_intro (push_api n ht v1 _ k ko) ?_
      rintro x p ⟨hT, hxp⟩
      unfold Told at hT
      rw [cF false, decide_eq_true (show 0 ≤ n by omega), Bool.and_self, if_pos rfl, ePush, if_pos rfl] at hT
      obtain ⟨v3, rfl, ho3⟩ := hT
      simp only at ho3
      obtain ⟨one3, cl3, gd3⟩ := ho3.v.one
      have np := hxp.next
      have pS : p.get (pa h.next) = .ofL [.int .i64 ht, v] 0 false := by rw [hxp.get _ (old_lt (by omega)), kS]
      have q3 : (p.next = h.next) = False := eq_false (by omega)
      have q4 : (h.next = p.next) = False := eq_false (by omega)
      simp +contextual only [pS, q1, q2, q3, q4, one3, cl3, gd3, ↓wpA1, ↓wpA2, ↓wpA3, wpB1, wpB2, wpB3, wpB4, wpB5, wpB6, repeatV, RX.evs, spl, over, ones, Ex.ends, evR, oneOf, Option.isSome_some, Option.getD_some, if_true, if_false, true_and, and_true, List.getElem?_cons_zero, List.getElem?_cons_succ, List.length_cons, List.length_nil, List.drop_zero, List.drop_succ_cons, List.take_succ_cons, List.take_zero, List.cons_append, List.nil_append, Option.some.injEq, exists_eq_left', top, List.cons.injEq, ↓reduceIte, Nat.reduceEqDiff, Nat.reduceLeDiff, Nat.reduceAdd, Nat.reduceSub, Nat.reduceMul, reduceCtorEq, Nat.succ_ne_zero, imp_T, imp_F, List.getElem?_nil, Int.reduceEq, Int.reduceLT, Int.reduceLE, Int.reduceNeg, Int.reduceAdd, Int.reduceSub, decide_true, decide_false, eq_self, not_true_eq_false, not_false_eq_true, ite_true, ite_false]
      have hxP : Ext p ((p.new (.ofL [.int .i64 0, .nilslice] 0 false)).set (pa p.next) (.ofL [.int .i64 (ht + n), v3] 0 false)) := ((Ext.refl _).new _).set (by omega) _
      generalize em : ((p.new (.ofL [.int .i64 0, .nilslice] 0 false)).set (pa p.next) (.ofL [.int .i64 (ht + n), v3] 0 false)) = m at hxP ⊢
      have nm : p.next + 1 ≤ m.next := by rw [← em]; exact Nat.le_refl _
      have mS : m.get (pa h.next) = .ofL [.int .i64 ht, v] 0 false := by rw [hxP.get _ (old_lt (by omega)), pS]
      clear em
      refine callK_intro (leave_api (ht + n) v3 _ m (ho3.v.ext hxP)) ?_
      rintro x l ⟨hT, hxl⟩
      have nl := hxl.next
      have lS : l.get (pa h.next) = .ofL [.int .i64 ht, v] 0 false := by rw [hxl.get _ (old_lt (by omega)), mS]
      have q5 : (l.next = h.next) = False := eq_false (by omega)
      have q6 : (h.next = l.next) = False := eq_false (by omega)
      unfold Told at hT
      rw [cG false, Bool.and_self, if_pos rfl, eLeave] at hT
      by_cases k1 : n < res ∧ (false : Bool) = false
      · 
        rw [if_pos k1, if_neg (by decide)] at hT
        subst hT
        have k2 : ¬ res < n := by omega
        have k3 : n < res := k1.1
        simp +contextual only [zeroS, lS, q1, q2, q3, q4, q5, q6, k2, k3, ↓wpA1, ↓wpA2, ↓wpA3, wpB1, wpB2, wpB3, wpB4, wpB5, wpB6, repeatV, RX.evs, spl, over, ones, Ex.ends, evR, oneOf, Option.isSome_some, Option.getD_some, if_true, if_false, true_and, and_true, List.getElem?_cons_zero, List.getElem?_cons_succ, List.length_cons, List.length_nil, List.drop_zero, List.drop_succ_cons, List.take_succ_cons, List.take_zero, List.cons_append, List.nil_append, Option.some.injEq, exists_eq_left', top, List.cons.injEq, ↓reduceIte, Nat.reduceEqDiff, Nat.reduceLeDiff, Nat.reduceAdd, Nat.reduceSub, Nat.reduceMul, reduceCtorEq, Nat.succ_ne_zero, imp_T, imp_F, List.getElem?_nil, Int.reduceEq, Int.reduceLT, Int.reduceLE, Int.reduceNeg, Int.reduceAdd, Int.reduceSub, decide_true, decide_false, eq_self, not_true_eq_false, not_false_eq_true, ite_true, ite_false]
      · rw [if_neg k1] at hT
        by_cases k2 : res < n
        · rw [if_pos k2, if_neg (by decide)] at hT
          subst hT
          simp +contextual only [zeroS, lS, q1, q2, q3, q4, q5, q6, k2, ↓wpA1, ↓wpA2, ↓wpA3, wpB1, wpB2, wpB3, wpB4, wpB5, wpB6, repeatV, RX.evs, spl, over, ones, Ex.ends, evR, oneOf, Option.isSome_some, Option.getD_some, if_true, if_false, true_and, and_true, List.getElem?_cons_zero, List.getElem?_cons_succ, List.length_cons, List.length_nil, List.drop_zero, List.drop_succ_cons, List.take_succ_cons, List.take_zero, List.cons_append, List.nil_append, Option.some.injEq, exists_eq_left', top, List.cons.injEq, ↓reduceIte, Nat.reduceEqDiff, Nat.reduceLeDiff, Nat.reduceAdd, Nat.reduceSub, Nat.reduceMul, reduceCtorEq, Nat.succ_ne_zero, imp_T, imp_F, List.getElem?_nil, Int.reduceEq, Int.reduceLT, Int.reduceLE, Int.reduceNeg, Int.reduceAdd, Int.reduceSub, decide_true, decide_false, eq_self, not_true_eq_false, not_false_eq_true, ite_true, ite_false]
        · rw [if_neg k2, if_pos rfl] at hT
          obtain ⟨v4, rfl, ho4⟩ := hT
          simp only at ho4
          obtain ⟨one4, cl4, gd4⟩ := ho4.v.one
          have k3 : ¬ n < res := by simpa using k1
          simp +contextual only [lS, q1, q2, q3, q4, q5, q6, k2, k3, one4, cl4, gd4, ↓wpA1, ↓wpA2, ↓wpA3, wpB1, wpB2, wpB3, wpB4, wpB5, wpB6, repeatV, RX.evs, spl, over, ones, Ex.ends, evR, oneOf, Option.isSome_some, Option.getD_some, if_true, if_false, true_and, and_true, List.getElem?_cons_zero, List.getElem?_cons_succ, List.length_cons, List.length_nil, List.drop_zero, List.drop_succ_cons, List.take_succ_cons, List.take_zero, List.cons_append, List.nil_append, Option.some.injEq, exists_eq_left', top, List.cons.injEq, ↓reduceIte, Nat.reduceEqDiff, Nat.reduceLeDiff, Nat.reduceAdd, Nat.reduceSub, Nat.reduceMul, reduceCtorEq, Nat.succ_ne_zero, imp_T, imp_F, List.getElem?_nil, Int.reduceEq, Int.reduceLT, Int.reduceLE, Int.reduceNeg, Int.reduceAdd, Int.reduceSub, decide_true, decide_false, eq_self, not_true_eq_false, not_false_eq_true, ite_true, ite_false]
          have hxL : Ext l ((l.new (.ofL [.int .i64 0, .nilslice] 0 false)).set (pa l.next) (.ofL [.int .i64 (ht + res), v4] 0 false)) := ((Ext.refl _).new _).set (by omega) _
          generalize eo : ((l.new (.ofL [.int .i64 0, .nilslice] 0 false)).set (pa l.next) (.ofL [.int .i64 (ht + res), v4] 0 false)) = o at hxL ⊢
          have no : l.next + 1 ≤ o.next := by rw [← eo]; exact Nat.le_refl _
          have oS : o.get (pa h.next) = .ofL [.int .i64 ht, v] 0 false := by rw [hxL.get _ (old_lt (by omega)), lS]
          have oC : o.get (pa l.next) = .ofL [.int .i64 (ht + res), v4] 0 false := by rw [← eo, get_set, if_pos rfl]
          clear eo
          have hxo := ((((hx01.trans hxk).trans hxp).trans hxP).trans hxl).trans hxL
          refine callK_intro (push_api res ht v fs o (hv.ext hxo)) ?_
          rintro x w ⟨hT, hxw⟩
          have nw := hxw.next
          unfold Told at hT
          rw [hc, decide_eq_true hr.1, Bool.and_self, if_pos rfl, ePush2, if_pos rfl] at hT
          obtain ⟨v5, rfl, ho5⟩ := hT
          simp only at ho5
          obtain ⟨one5, cl5, gd5⟩ := ho5.v.one
          have wC : w.get (pa l.next) = .ofL [.int .i64 (ht + res), v4] 0 false := by rw [hxw.get _ (old_lt (by omega)), oC]
          have q7 : (w.next = l.next) = False := eq_false (by omega)
          have q8 : (l.next = w.next) = False := eq_false (by omega)
          simp +contextual only [wC, q7, q8, one5, cl5, gd5, ↓wpA1, ↓wpA2, ↓wpA3, wpB1, wpB2, wpB3, wpB4, wpB5, wpB6, repeatV, RX.evs, spl, over, ones, Ex.ends, evR, oneOf, Option.isSome_some, Option.getD_some, if_true, if_false, true_and, and_true, List.getElem?_cons_zero, List.getElem?_cons_succ, List.length_cons, List.length_nil, List.drop_zero, List.drop_succ_cons, List.take_succ_cons, List.take_zero, List.cons_append, List.nil_append, Option.some.injEq, exists_eq_left', top, List.cons.injEq, ↓reduceIte, Nat.reduceEqDiff, Nat.reduceLeDiff, Nat.reduceAdd, Nat.reduceSub, Nat.reduceMul, reduceCtorEq, Nat.succ_ne_zero, imp_T, imp_F, List.getElem?_nil, Int.reduceEq, Int.reduceLT, Int.reduceLE, Int.reduceNeg, Int.reduceAdd, Int.reduceSub, decide_true, decide_false, eq_self, not_true_eq_false, not_false_eq_true, ite_true, ite_false]
          have hxW : Ext w ((w.new (.ofL [.int .i64 0, .nilslice] 0 false)).set (pa w.next) (.ofL [.int .i64 (ht + res), v5] 0 false)) := ((Ext.refl _).new _).set (by omega) _
          refine callK_intro (same_ctr (ht + res) (ht + res) v4 v5 fs fs _ (ho4.v.ext ((hxL.trans hxw).trans hxW)) (ho5.v.ext hxW) (by omega)) ?_
          rintro x z ⟨rfl, hxz⟩
          rw [decide_eq_true rfl, eqFs_self]
          simp +contextual only [↓wpA1, ↓wpA2, ↓wpA3, wpB1, wpB2, wpB3, wpB4, wpB5, wpB6, repeatV, RX.evs, spl, over, ones, Ex.ends, evR, oneOf, Option.isSome_some, Option.getD_some, if_true, if_false, true_and, and_true, List.getElem?_cons_zero, List.getElem?_cons_succ, List.length_cons, List.length_nil, List.drop_zero, List.drop_succ_cons, List.take_succ_cons, List.take_zero, List.cons_append, List.nil_append, Option.some.injEq, exists_eq_left', top, List.cons.injEq, ↓reduceIte, Nat.reduceEqDiff, Nat.reduceLeDiff, Nat.reduceAdd, Nat.reduceSub, Nat.reduceMul, reduceCtorEq, Nat.succ_ne_zero, imp_T, imp_F, List.getElem?_nil, Int.reduceEq, Int.reduceLT, Int.reduceLE, Int.reduceNeg, Int.reduceAdd, Int.reduceSub, decide_true, decide_false, eq_self, not_true_eq_false, not_false_eq_true, ite_true, ite_false]
end Go.Proofs.Ytkjifhoiiciblaa
