/- The chapter's functions, walked by the abstract machine: plain lemmas, no condition. -/
import Derived.Test.YtkjifhoiiciblaaM7
import Derived.Test.YtkjifhoiiciblaaM8
import Derived.Carry

namespace Go.Proofs.Ytkjifhoiiciblaa
open Go Am
set_option linter.unusedSimpArgs false
set_option linter.unusedVariables false

theorem tiled : tilesB Try.prog = true := by kernel_rfl
theorem laidOut : laidOutB Try.prog = true := by kernel_rfl
theorem cells42 : Try.prog.cellsOf 42 = 4 := by kernel_rfl
theorem cells24 : Try.prog.cellsOf 24 = 2 := by kernel_rfl
theorem cells3 : Try.prog.cellsOf 3 = 1 := by kernel_rfl
theorem cells4 : Try.prog.cellsOf 4 = 1 := by kernel_rfl
theorem cells22 : Try.prog.cellsOf 22 = 1 := by kernel_rfl

theorem four {vs : List V} (h : vs.length = 4) : ∃ a b c d, vs = [a, b, c, d] := by
  match vs, h with
  | [a, b, c, d], _ => exact ⟨a, b, c, d, rfl⟩
theorem two {vs : List V} (h : vs.length = 2) : ∃ a b, vs = [a, b] := by
  match vs, h with
  | [a, b], _ => exact ⟨a, b, rfl⟩

theorem open_frame {h : Heap} {n : Nat} {vs : List V} (H : Shp Try.prog h n 42 vs) : ∃ f : Fm, vs = f.enc := by
  obtain ⟨m, rfl, h1, h2⟩ := H.struct Try.underlying42
  rw [cells42] at h1
  obtain ⟨a, b, c, d, rfl⟩ := four h1
  have f0 := h2 _ (List.mem_of_getElem? (i := 0) rfl)
  have f1 := h2 _ (List.mem_of_getElem? (i := 1) rfl)
  have f2 := h2 _ (List.mem_of_getElem? (i := 2) rfl)
  have f3 := h2 _ (List.mem_of_getElem? (i := 3) rfl)
  simp only [cells3, cells4, List.drop_zero, List.drop_succ_cons, List.take_succ_cons, List.take_zero] at f0 f1 f2 f3
  obtain ⟨i0, e0, _⟩ := f0.int Try.underlying3
  obtain ⟨i1, e1, _⟩ := f1.int Try.underlying3
  obtain ⟨i2, e2, _⟩ := f2.int Try.underlying3
  obtain ⟨i3, e3⟩ := f3.bool Try.underlying4
  simp only [List.cons.injEq, and_true] at e0 e1 e2 e3
  subst e0 e1 e2 e3
  exact ⟨⟨i0, i1, i2, i3⟩, rfl⟩

/-- a stand that was handed in -/
def Std (h : Heap) (x : V) (ht : Int) (v : V) (len : Nat) : Prop :=
  x = .agg [.int .i64 ht, v] ∧ v.one = true ∧ v.cells = [v] ∧ v.good = true ∧ lenSl v = some (.int .i64 len) ∧ (len ≤ 100000 → ∃ fs, fs.length = len ∧ SlV h 4 v len (encs fs))

theorem open_stand {h : Heap} {n : Nat} {x : V} (H : ShpV Try.prog h n 24 x) : ∃ ht v len, Std h x ht v len := by
  unfold ShpV at H
  rw [Try.underlying24] at H
  simp only at H
  obtain ⟨vs, rfl, H⟩ := H
  obtain ⟨m, rfl, h1, h2⟩ := H.struct Try.underlying24
  rw [cells24] at h1
  obtain ⟨a, b, rfl⟩ := two h1
  have f0 := h2 _ (List.mem_of_getElem? (i := 0) rfl)
  have f1 := h2 _ (List.mem_of_getElem? (i := 1) rfl)
  simp only [cells3, cells22, List.drop_zero, List.drop_succ_cons, List.take_succ_cons, List.take_zero] at f0 f1
  obtain ⟨i0, e0, _⟩ := f0.int Try.underlying3
  simp only [List.cons.injEq, and_true] at e0
  subst e0
  obtain ⟨m', v, len, _, e1, g1, g2, g3, g4, g5, g6⟩ := f1.slice Try.underlying22 (by rw [cells42]; omega)
  simp only [List.cons.injEq, and_true] at e1
  subst e1
  refine ⟨i0, _, len, rfl, g1, g2, g3, g4, fun hl => ?_⟩
  rw [cells42] at g6
  obtain ⟨us, k1, k2⟩ := g6 (by unfold top; omega)
  obtain ⟨fs, q1, q2, _⟩ := collect Fm.enc 4 (fun _ => True) len us k1.1 (fun i hi => by
    obtain ⟨f, hf⟩ := open_frame (k2 i hi)
    exact ⟨f, hf, trivial⟩)
  subst q2
  exact ⟨fs, q1, k1⟩

theorem open_int3 {h : Heap} {n : Nat} {x : V} (H : ShpV Try.prog h n 3 x) : ∃ i, x = .int .i64 i ∧ (Lit.int .i64 i).wf = true := by
  unfold ShpV at H
  rw [Try.underlying3] at H
  obtain ⟨i, e, w⟩ := Shp.int H Try.underlying3
  simp only [List.cons.injEq, and_true] at e
  exact ⟨i, e, w⟩
theorem open_bool4 {h : Heap} {n : Nat} {x : V} (H : ShpV Try.prog h n 4 x) : ∃ b, x = .bool b := by
  unfold ShpV at H
  rw [Try.underlying4] at H
  obtain ⟨b, e⟩ := Shp.bool H Try.underlying4
  simp only [List.cons.injEq, and_true] at e
  exact ⟨b, e⟩

/-! what the document's examples say -/
noncomputable def ctx : Am.Ctx := ⟨Try.prog, fun _ => none⟩
theorem noPrim : Am.PrimOk ctx := by
  intro f p args h v h' hp
  cases hp
theorem awake_run : Am.truly ctx 100000 7 [] = true := by kernel_rfl
theorem awake_calls (h : Heap) : CallsV Try.prog 7 [] h (.bool true) h :=
  closed_callsV (fun E x e => by simp only [Rel]; exact e) ⟨Try.f7, Try.func7, by kernel_rfl⟩ (fun w => Am.truly_sound (C := ctx) follows namesOk noPrim awake_run) h

/-! a stand too long to be one -/
theorem check_long (ht : Int) (v : V) (len : Nat) (h : Heap) (one0 : v.one = true) (cl0 : v.cells = [v]) (gd0 : v.good = true) (hl : lenSl v = some (.int .i64 len)) (hn : 1000 < len) :
    Ctr Try.prog 8 [.agg [.int .i64 ht, v]] h fun x h' => x = .int .i64 2 ∧ Ext h h' := by
  refine c8_ctr rfl (wpK_of ?_)
  unfold c8
  have h1 : ((len : Int) < 1) = False := eq_false (by omega)
  have h2 : ((1000 : Int) < (len : Int)) = True := eq_true (by omega)
  simp +contextual only [hl, h1, h2, one0, cl0, gd0, ↓wpA1, ↓wpA2, ↓wpA3, wpB1, wpB2, wpB3, wpB4, wpB5, wpB6, repeatV, RX.evs, spl, over, ones, Ex.ends, evR, oneOf, Option.isSome_some, Option.getD_some, if_true, if_false, true_and, and_true, List.getElem?_cons_zero, List.getElem?_cons_succ, List.length_cons, List.length_nil, List.drop_zero, List.drop_succ_cons, List.take_succ_cons, List.take_zero, List.cons_append, List.nil_append, Option.some.injEq, exists_eq_left', top, List.cons.injEq, ↓reduceIte, Nat.reduceEqDiff, Nat.reduceLeDiff, Nat.reduceAdd, Nat.reduceSub, Nat.reduceMul, reduceCtorEq, Nat.succ_ne_zero, imp_T, imp_F, List.getElem?_nil, Int.reduceEq, Int.reduceLT, Int.reduceLE, Int.reduceNeg, Int.reduceAdd, Int.reduceSub, decide_true, decide_false, eq_self, not_true_eq_false, not_false_eq_true, ite_true, ite_false]
  exact (Ext.refl h).new _

theorem turned_long (g : FuncId) (cs : List V) (ht : Int) (v : V) (len : Nat) (fine : Bool) (h : Heap) (one0 : v.one = true) (cl0 : v.cells = [v]) (gd0 : v.good = true) (hl : lenSl v = some (.int .i64 len)) (hn : 1000 < len) :
    Ctr Try.prog 28 [.agg [.int .i64 ht, v], .bool fine, .func g cs] h fun x h' => x = .tuple [zeroS, .int .i64 2] ∧ Ext h h' := by
  refine c28_ctr rfl (wpK_of ?_)
  unfold c28
  cases fine with
  | false =>
    simp +contextual only [one0, cl0, gd0, ↓wpA1, ↓wpA2, ↓wpA3, wpB1, wpB2, wpB3, wpB4, wpB5, wpB6, repeatV, RX.evs, spl, over, ones, Ex.ends, evR, oneOf, Option.isSome_some, Option.getD_some, if_true, if_false, true_and, and_true, List.getElem?_cons_zero, List.getElem?_cons_succ, List.length_cons, List.length_nil, List.drop_zero, List.drop_succ_cons, List.take_succ_cons, List.take_zero, List.cons_append, List.nil_append, Option.some.injEq, exists_eq_left', top, List.cons.injEq, ↓reduceIte, Nat.reduceEqDiff, Nat.reduceLeDiff, Nat.reduceAdd, Nat.reduceSub, Nat.reduceMul, reduceCtorEq, Nat.succ_ne_zero, imp_T, imp_F, List.getElem?_nil, Int.reduceEq, Int.reduceLT, Int.reduceLE, Int.reduceNeg, Int.reduceAdd, Int.reduceSub, decide_true, decide_false, eq_self, not_true_eq_false, not_false_eq_true, ite_true, ite_false]
    exact ⟨rfl, (((Ext.refl h).new _).new _).set (Nat.le_succ _) _⟩
  | true =>
    simp +contextual only [one0, cl0, gd0, ↓wpA1, ↓wpA2, ↓wpA3, wpB1, wpB2, wpB3, wpB4, wpB5, wpB6, repeatV, RX.evs, spl, over, ones, Ex.ends, evR, oneOf, Option.isSome_some, Option.getD_some, if_true, if_false, true_and, and_true, List.getElem?_cons_zero, List.getElem?_cons_succ, List.length_cons, List.length_nil, List.drop_zero, List.drop_succ_cons, List.take_succ_cons, List.take_zero, List.cons_append, List.nil_append, Option.some.injEq, exists_eq_left', top, List.cons.injEq, ↓reduceIte, Nat.reduceEqDiff, Nat.reduceLeDiff, Nat.reduceAdd, Nat.reduceSub, Nat.reduceMul, reduceCtorEq, Nat.succ_ne_zero, imp_T, imp_F, List.getElem?_nil, Int.reduceEq, Int.reduceLT, Int.reduceLE, Int.reduceNeg, Int.reduceAdd, Int.reduceSub, decide_true, decide_false, eq_self, not_true_eq_false, not_false_eq_true, ite_true, ite_false]
    refine callK_intro (check_long ht v len _ one0 cl0 gd0 hl hn) ?_
    rintro x h1 ⟨rfl, hx⟩
    have g0 : h1.get (pa h.next) = .ofL [.int .i64 ht, v] 0 false := by
      rw [hx.get _ (old_lt (by simp only [next_new]; omega))]
      simp only [↓wpA1, ↓wpA2, ↓wpA3, wpB1, wpB2, wpB3, wpB4, wpB5, wpB6, repeatV, RX.evs, spl, over, ones, Ex.ends, evR, oneOf, Option.isSome_some, Option.getD_some, if_true, if_false, true_and, and_true, List.getElem?_cons_zero, List.getElem?_cons_succ, List.length_cons, List.length_nil, List.drop_zero, List.drop_succ_cons, List.take_succ_cons, List.take_zero, List.cons_append, List.nil_append, Option.some.injEq, exists_eq_left', top, List.cons.injEq, ↓reduceIte, Nat.reduceEqDiff, Nat.reduceLeDiff, Nat.reduceAdd, Nat.reduceSub, Nat.reduceMul, reduceCtorEq, Nat.succ_ne_zero, imp_T, imp_F, List.getElem?_nil, Int.reduceEq, Int.reduceLT, Int.reduceLE, Int.reduceNeg, Int.reduceAdd, Int.reduceSub, decide_true, decide_false, eq_self, not_true_eq_false, not_false_eq_true, ite_true, ite_false]
    have g1 : h1.get (pa (h.next + 1)) = .ofL [.int .i64 0, .nilslice] 0 false := by
      rw [hx.get _ (old_lt (by simp only [next_new]; omega))]
      simp only [↓wpA1, ↓wpA2, ↓wpA3, wpB1, wpB2, wpB3, wpB4, wpB5, wpB6, repeatV, RX.evs, spl, over, ones, Ex.ends, evR, oneOf, Option.isSome_some, Option.getD_some, if_true, if_false, true_and, and_true, List.getElem?_cons_zero, List.getElem?_cons_succ, List.length_cons, List.length_nil, List.drop_zero, List.drop_succ_cons, List.take_succ_cons, List.take_zero, List.cons_append, List.nil_append, Option.some.injEq, exists_eq_left', top, List.cons.injEq, ↓reduceIte, Nat.reduceEqDiff, Nat.reduceLeDiff, Nat.reduceAdd, Nat.reduceSub, Nat.reduceMul, reduceCtorEq, Nat.succ_ne_zero, imp_T, imp_F, List.getElem?_nil, Int.reduceEq, Int.reduceLT, Int.reduceLE, Int.reduceNeg, Int.reduceAdd, Int.reduceSub, decide_true, decide_false, eq_self, not_true_eq_false, not_false_eq_true, ite_true, ite_false]
    have hx0 : Ext h h1 := ((((Ext.refl h).new _).new _)).trans hx
    simp +contextual only [g0, g1, ↓wpA1, ↓wpA2, ↓wpA3, wpB1, wpB2, wpB3, wpB4, wpB5, wpB6, repeatV, RX.evs, spl, over, ones, Ex.ends, evR, oneOf, Option.isSome_some, Option.getD_some, if_true, if_false, true_and, and_true, List.getElem?_cons_zero, List.getElem?_cons_succ, List.length_cons, List.length_nil, List.drop_zero, List.drop_succ_cons, List.take_succ_cons, List.take_zero, List.cons_append, List.nil_append, Option.some.injEq, exists_eq_left', top, List.cons.injEq, ↓reduceIte, Nat.reduceEqDiff, Nat.reduceLeDiff, Nat.reduceAdd, Nat.reduceSub, Nat.reduceMul, reduceCtorEq, Nat.succ_ne_zero, imp_T, imp_F, List.getElem?_nil, Int.reduceEq, Int.reduceLT, Int.reduceLE, Int.reduceNeg, Int.reduceAdd, Int.reduceSub, decide_true, decide_false, eq_self, not_true_eq_false, not_false_eq_true, ite_true, ite_false]
    exact ⟨rfl, hx0.set (Nat.le_succ _) _⟩

theorem enter_long (op res ht : Int) (v : V) (len : Nat) (h : Heap) (one0 : v.one = true) (cl0 : v.cells = [v]) (gd0 : v.good = true) (hl : lenSl v = some (.int .i64 len)) (hn : 1000 < len) :
    Ctr Try.prog 18 [.agg [.int .i64 ht, v], .int .i64 op, .int .i64 res] h fun x h' => x = .tuple [zeroS, .int .i64 2] ∧ Ext h h' := by
  refine c18_ctr rfl (wpK_of ?_)
  unfold c18
  simp +contextual only [one0, cl0, gd0, ↓wpA1, ↓wpA2, ↓wpA3, wpB1, wpB2, wpB3, wpB4, wpB5, wpB6, repeatV, RX.evs, spl, over, ones, Ex.ends, evR, oneOf, Option.isSome_some, Option.getD_some, if_true, if_false, true_and, and_true, List.getElem?_cons_zero, List.getElem?_cons_succ, List.length_cons, List.length_nil, List.drop_zero, List.drop_succ_cons, List.take_succ_cons, List.take_zero, List.cons_append, List.nil_append, Option.some.injEq, exists_eq_left', top, List.cons.injEq, ↓reduceIte, Nat.reduceEqDiff, Nat.reduceLeDiff, Nat.reduceAdd, Nat.reduceSub, Nat.reduceMul, reduceCtorEq, Nat.succ_ne_zero, imp_T, imp_F, List.getElem?_nil, Int.reduceEq, Int.reduceLT, Int.reduceLE, Int.reduceNeg, Int.reduceAdd, Int.reduceSub, decide_true, decide_false, eq_self, not_true_eq_false, not_false_eq_true, ite_true, ite_false]
  refine callK_pure (list_pure op _) ?_
  simp +contextual only [one0, cl0, gd0, ↓wpA1, ↓wpA2, ↓wpA3, wpB1, wpB2, wpB3, wpB4, wpB5, wpB6, repeatV, RX.evs, spl, over, ones, Ex.ends, evR, oneOf, Option.isSome_some, Option.getD_some, if_true, if_false, true_and, and_true, List.getElem?_cons_zero, List.getElem?_cons_succ, List.length_cons, List.length_nil, List.drop_zero, List.drop_succ_cons, List.take_succ_cons, List.take_zero, List.cons_append, List.nil_append, Option.some.injEq, exists_eq_left', top, List.cons.injEq, ↓reduceIte, Nat.reduceEqDiff, Nat.reduceLeDiff, Nat.reduceAdd, Nat.reduceSub, Nat.reduceMul, reduceCtorEq, Nat.succ_ne_zero, imp_T, imp_F, List.getElem?_nil, Int.reduceEq, Int.reduceLT, Int.reduceLE, Int.reduceNeg, Int.reduceAdd, Int.reduceSub, decide_true, decide_false, eq_self, not_true_eq_false, not_false_eq_true, ite_true, ite_false]
  have hx : Ext h ((((h.new (.ofL [.int .i64 ht, v] 0 false)).new (.ofL [.int .i64 op] 0 false)).new (.ofL [.int .i64 res] 0 false)).new (.ofL [.int .i64 0, .nilslice] 0 false)) := ((((Ext.refl h).new _).new _).new _).new _
  refine callK_intro (turned_long 36 _ ht v len _ _ one0 cl0 gd0 hl hn) ?_
  rintro x h1 ⟨rfl, hx1⟩
  have g0 : h1.get (pa h.next) = .ofL [.int .i64 ht, v] 0 false := by
    rw [hx1.get _ (old_lt (by simp only [next_new]; omega))]
    simp only [↓wpA1, ↓wpA2, ↓wpA3, wpB1, wpB2, wpB3, wpB4, wpB5, wpB6, repeatV, RX.evs, spl, over, ones, Ex.ends, evR, oneOf, Option.isSome_some, Option.getD_some, if_true, if_false, true_and, and_true, List.getElem?_cons_zero, List.getElem?_cons_succ, List.length_cons, List.length_nil, List.drop_zero, List.drop_succ_cons, List.take_succ_cons, List.take_zero, List.cons_append, List.nil_append, Option.some.injEq, exists_eq_left', top, List.cons.injEq, ↓reduceIte, Nat.reduceEqDiff, Nat.reduceLeDiff, Nat.reduceAdd, Nat.reduceSub, Nat.reduceMul, reduceCtorEq, Nat.succ_ne_zero, imp_T, imp_F, List.getElem?_nil, Int.reduceEq, Int.reduceLT, Int.reduceLE, Int.reduceNeg, Int.reduceAdd, Int.reduceSub, decide_true, decide_false, eq_self, not_true_eq_false, not_false_eq_true, ite_true, ite_false]
  have g2 : h1.get (pa (h.next + 2)) = .ofL [.int .i64 res] 0 false := by
    rw [hx1.get _ (old_lt (by simp only [next_new]; omega))]
    simp only [↓wpA1, ↓wpA2, ↓wpA3, wpB1, wpB2, wpB3, wpB4, wpB5, wpB6, repeatV, RX.evs, spl, over, ones, Ex.ends, evR, oneOf, Option.isSome_some, Option.getD_some, if_true, if_false, true_and, and_true, List.getElem?_cons_zero, List.getElem?_cons_succ, List.length_cons, List.length_nil, List.drop_zero, List.drop_succ_cons, List.take_succ_cons, List.take_zero, List.cons_append, List.nil_append, Option.some.injEq, exists_eq_left', top, List.cons.injEq, ↓reduceIte, Nat.reduceEqDiff, Nat.reduceLeDiff, Nat.reduceAdd, Nat.reduceSub, Nat.reduceMul, reduceCtorEq, Nat.succ_ne_zero, imp_T, imp_F, List.getElem?_nil, Int.reduceEq, Int.reduceLT, Int.reduceLE, Int.reduceNeg, Int.reduceAdd, Int.reduceSub, decide_true, decide_false, eq_self, not_true_eq_false, not_false_eq_true, ite_true, ite_false]
  have g3 : h1.get (pa (h.next + 3)) = .ofL [.int .i64 0, .nilslice] 0 false := by
    rw [hx1.get _ (old_lt (by simp only [next_new]; omega))]
    simp only [↓wpA1, ↓wpA2, ↓wpA3, wpB1, wpB2, wpB3, wpB4, wpB5, wpB6, repeatV, RX.evs, spl, over, ones, Ex.ends, evR, oneOf, Option.isSome_some, Option.getD_some, if_true, if_false, true_and, and_true, List.getElem?_cons_zero, List.getElem?_cons_succ, List.length_cons, List.length_nil, List.drop_zero, List.drop_succ_cons, List.take_succ_cons, List.take_zero, List.cons_append, List.nil_append, Option.some.injEq, exists_eq_left', top, List.cons.injEq, ↓reduceIte, Nat.reduceEqDiff, Nat.reduceLeDiff, Nat.reduceAdd, Nat.reduceSub, Nat.reduceMul, reduceCtorEq, Nat.succ_ne_zero, imp_T, imp_F, List.getElem?_nil, Int.reduceEq, Int.reduceLT, Int.reduceLE, Int.reduceNeg, Int.reduceAdd, Int.reduceSub, decide_true, decide_false, eq_self, not_true_eq_false, not_false_eq_true, ite_true, ite_false]
  simp +contextual only [zeroS, g0, g2, g3, ↓wpA1, ↓wpA2, ↓wpA3, wpB1, wpB2, wpB3, wpB4, wpB5, wpB6, repeatV, RX.evs, spl, over, ones, Ex.ends, evR, oneOf, Option.isSome_some, Option.getD_some, if_true, if_false, true_and, and_true, List.getElem?_cons_zero, List.getElem?_cons_succ, List.length_cons, List.length_nil, List.drop_zero, List.drop_succ_cons, List.take_succ_cons, List.take_zero, List.cons_append, List.nil_append, Option.some.injEq, exists_eq_left', top, List.cons.injEq, ↓reduceIte, Nat.reduceEqDiff, Nat.reduceLeDiff, Nat.reduceAdd, Nat.reduceSub, Nat.reduceMul, reduceCtorEq, Nat.succ_ne_zero, imp_T, imp_F, List.getElem?_nil, Int.reduceEq, Int.reduceLT, Int.reduceLE, Int.reduceNeg, Int.reduceAdd, Int.reduceSub, decide_true, decide_false, eq_self, not_true_eq_false, not_false_eq_true, ite_true, ite_false]
  exact (hx.trans hx1).set (by omega) _
end Go.Proofs.Ytkjifhoiiciblaa

namespace Go.Proofs.Ytkjifhoiiciblaa
open Go Am
set_option linter.unusedSimpArgs false
set_option linter.unusedVariables false

theorem okFrom_height {ht ht' : Int} : ∀ {fs : List Fm} {i : Nat} {base : Int}, okFrom ht i base fs = true → (∀ f ∈ fs, f.base ≤ ht') → okFrom ht' i base fs = true
  | [], _, _, _, _ => rfl
  | f :: fs, i, base, h, hb => by
    simp only [okFrom, Bool.and_eq_true] at h ⊢
    refine ⟨?_, okFrom_height h.2 fun g hg => hb g (by simp [hg])⟩
    have h1 := h.1
    have hf := hb f (by simp)
    have : decide (ht' < f.base) = false := decide_eq_false (by omega)
    rw [this]
    simp at h1 ⊢
    simp [h1]
theorem lastF_cons (f g : Fm) (fs : List Fm) : lastF (f :: g :: fs) = lastF (g :: fs) := by
  unfold lastF
  simp
theorem okFrom_last {ht : Int} : ∀ {fs : List Fm} {i : Nat} {base : Int}, okFrom ht i base fs = true → ∀ f ∈ fs, f.base ≤ (lastF fs).base
  | [f], i, base, h, g, hg => by
    simp at hg
    subst hg
    exact Int.le_refl _
  | f :: g :: fs, i, base, h, x, hx => by
    rw [lastF_cons]
    simp only [okFrom, Bool.and_eq_true] at h
    have h2 : okFrom ht (i + 1) f.base (g :: fs) = true := by simp only [okFrom, Bool.and_eq_true]; exact h.2
    rcases List.mem_cons.1 hx with rfl | hx
    · have a := (okFrom_all h2 g (by simp)).1
      have b := okFrom_last h2 g (by simp)
      omega
    · exact okFrom_last h2 x hx

theorem check_height {ht ht' : Int} {fs : List Fm} (h : checkB ht fs = true) (h1 : (lastF fs).base ≤ ht') (h2 : ht' ≤ 1073741824) : checkB ht' fs = true := by
  have hb := check_last h
  unfold checkB at h ⊢
  simp only [Bool.and_eq_true] at h ⊢
  have hh := okFrom_last h.2
  refine ⟨?_, okFrom_height h.2 fun f hf => by have := hh f hf; omega⟩
  have h3 := h.1
  have c1 : decide (ht' < 0) = false := decide_eq_false (by omega)
  have c2 : decide (1073741824 < ht') = false := decide_eq_false (by omega)
  rw [c1, c2]
  simp at h3 ⊢
  omega

/-- the law StackBack -/
theorem stackBack (n : Int) (x : V) (ht : Int) (v : V) (len : Nat) (h : Heap) (hs : Std h x ht v len) : Ctr Try.prog 3 [x, .int .i64 n] h fun y _ => y = .bool true := by
  obtain ⟨rfl, one0, cl0, gd0, hl, hfs⟩ := hs
  refine c3_ctr rfl (wpK_of ?_)
  unfold c3
  simp +contextual only [one0, cl0, gd0, ↓wpA1, ↓wpA2, ↓wpA3, wpB1, wpB2, wpB3, wpB4, wpB5, wpB6, repeatV, RX.evs, spl, over, ones, Ex.ends, evR, oneOf, Option.isSome_some, Option.getD_some, if_true, if_false, true_and, and_true, List.getElem?_cons_zero, List.getElem?_cons_succ, List.length_cons, List.length_nil, List.drop_zero, List.drop_succ_cons, List.take_succ_cons, List.take_zero, List.cons_append, List.nil_append, Option.some.injEq, exists_eq_left', top, List.cons.injEq, ↓reduceIte, Nat.reduceEqDiff, Nat.reduceLeDiff, Nat.reduceAdd, Nat.reduceSub, Nat.reduceMul, reduceCtorEq, Nat.succ_ne_zero, imp_T, imp_F, List.getElem?_nil, Int.reduceEq, Int.reduceLT, Int.reduceLE, Int.reduceNeg, Int.reduceAdd, Int.reduceSub, decide_true, decide_false, eq_self, not_true_eq_false, not_false_eq_true, ite_true, ite_false]
  refine callK_pure (awake_calls _) ?_
  simp +contextual only [one0, cl0, gd0, ↓wpA1, ↓wpA2, ↓wpA3, wpB1, wpB2, wpB3, wpB4, wpB5, wpB6, repeatV, RX.evs, spl, over, ones, Ex.ends, evR, oneOf, Option.isSome_some, Option.getD_some, if_true, if_false, true_and, and_true, List.getElem?_cons_zero, List.getElem?_cons_succ, List.length_cons, List.length_nil, List.drop_zero, List.drop_succ_cons, List.take_succ_cons, List.take_zero, List.cons_append, List.nil_append, Option.some.injEq, exists_eq_left', top, List.cons.injEq, ↓reduceIte, Nat.reduceEqDiff, Nat.reduceLeDiff, Nat.reduceAdd, Nat.reduceSub, Nat.reduceMul, reduceCtorEq, Nat.succ_ne_zero, imp_T, imp_F, List.getElem?_nil, Int.reduceEq, Int.reduceLT, Int.reduceLE, Int.reduceNeg, Int.reduceAdd, Int.reduceSub, decide_true, decide_false, eq_self, not_true_eq_false, not_false_eq_true, ite_true, ite_false]
  have hx : Ext h (h.new (.ofL [.int .i64 ht, v] 0 false)) := (Ext.refl h).new _
  by_cases hlen : 1000 < len
  · refine callK_intro (check_long ht v len _ one0 cl0 gd0 hl hlen) ?_
    rintro x h1 ⟨rfl, hx1⟩
    simp +contextual only [↓wpA1, ↓wpA2, ↓wpA3, wpB1, wpB2, wpB3, wpB4, wpB5, wpB6, repeatV, RX.evs, spl, over, ones, Ex.ends, evR, oneOf, Option.isSome_some, Option.getD_some, if_true, if_false, true_and, and_true, List.getElem?_cons_zero, List.getElem?_cons_succ, List.length_cons, List.length_nil, List.drop_zero, List.drop_succ_cons, List.take_succ_cons, List.take_zero, List.cons_append, List.nil_append, Option.some.injEq, exists_eq_left', top, List.cons.injEq, ↓reduceIte, Nat.reduceEqDiff, Nat.reduceLeDiff, Nat.reduceAdd, Nat.reduceSub, Nat.reduceMul, reduceCtorEq, Nat.succ_ne_zero, imp_T, imp_F, List.getElem?_nil, Int.reduceEq, Int.reduceLT, Int.reduceLE, Int.reduceNeg, Int.reduceAdd, Int.reduceSub, decide_true, decide_false, eq_self, not_true_eq_false, not_false_eq_true, ite_true, ite_false]
  · obtain ⟨fs, rfl, hv⟩ := hfs (by omega)
    refine callK_intro (check_ctr ht v fs _ (hv.ext hx)) ?_
    rintro x h1 ⟨rfl, hx1⟩
    have hx2 := hx.trans hx1
    have g0 : h1.get (pa h.next) = .ofL [.int .i64 ht, v] 0 false := by
      rw [hx1.get _ (old_lt (by simp only [next_new]; omega))]
      simp only [↓wpA1, ↓wpA2, ↓wpA3, wpB1, wpB2, wpB3, wpB4, wpB5, wpB6, repeatV, RX.evs, spl, over, ones, Ex.ends, evR, oneOf, Option.isSome_some, Option.getD_some, if_true, if_false, true_and, and_true, List.getElem?_cons_zero, List.getElem?_cons_succ, List.length_cons, List.length_nil, List.drop_zero, List.drop_succ_cons, List.take_succ_cons, List.take_zero, List.cons_append, List.nil_append, Option.some.injEq, exists_eq_left', top, List.cons.injEq, ↓reduceIte, Nat.reduceEqDiff, Nat.reduceLeDiff, Nat.reduceAdd, Nat.reduceSub, Nat.reduceMul, reduceCtorEq, Nat.succ_ne_zero, imp_T, imp_F, List.getElem?_nil, Int.reduceEq, Int.reduceLT, Int.reduceLE, Int.reduceNeg, Int.reduceAdd, Int.reduceSub, decide_true, decide_false, eq_self, not_true_eq_false, not_false_eq_true, ite_true, ite_false]
    cases hc : checkB ht fs with
    | false => simp +contextual only [hc, ↓wpA1, ↓wpA2, ↓wpA3, wpB1, wpB2, wpB3, wpB4, wpB5, wpB6, repeatV, RX.evs, spl, over, ones, Ex.ends, evR, oneOf, Option.isSome_some, Option.getD_some, if_true, if_false, true_and, and_true, List.getElem?_cons_zero, List.getElem?_cons_succ, List.length_cons, List.length_nil, List.drop_zero, List.drop_succ_cons, List.take_succ_cons, List.take_zero, List.cons_append, List.nil_append, Option.some.injEq, exists_eq_left', top, List.cons.injEq, ↓reduceIte, Nat.reduceEqDiff, Nat.reduceLeDiff, Nat.reduceAdd, Nat.reduceSub, Nat.reduceMul, reduceCtorEq, Nat.succ_ne_zero, imp_T, imp_F, List.getElem?_nil, Int.reduceEq, Int.reduceLT, Int.reduceLE, Int.reduceNeg, Int.reduceAdd, Int.reduceSub, decide_true, decide_false, eq_self, not_true_eq_false, not_false_eq_true, ite_true, ite_false]
    | true =>
      obtain ⟨l1, l2, l3, l4⟩ := check_len hc
      obtain ⟨b1, b2, b3, b4⟩ := check_last hc
      by_cases hn : n < 0 ∨ 1000 < n
      · have hn' : (decide (n < 0) || decide (1000 < n)) = true := by simpa using hn
        simp +contextual only [hc, hn', ↓wpA1, ↓wpA2, ↓wpA3, wpB1, wpB2, wpB3, wpB4, wpB5, wpB6, repeatV, RX.evs, spl, over, ones, Ex.ends, evR, oneOf, Option.isSome_some, Option.getD_some, if_true, if_false, true_and, and_true, List.getElem?_cons_zero, List.getElem?_cons_succ, List.length_cons, List.length_nil, List.drop_zero, List.drop_succ_cons, List.take_succ_cons, List.take_zero, List.cons_append, List.nil_append, Option.some.injEq, exists_eq_left', top, List.cons.injEq, ↓reduceIte, Nat.reduceEqDiff, Nat.reduceLeDiff, Nat.reduceAdd, Nat.reduceSub, Nat.reduceMul, reduceCtorEq, Nat.succ_ne_zero, imp_T, imp_F, List.getElem?_nil, Int.reduceEq, Int.reduceLT, Int.reduceLE, Int.reduceNeg, Int.reduceAdd, Int.reduceSub, decide_true, decide_false, eq_self, not_true_eq_false, not_false_eq_true, ite_true, ite_false]
      · have hn' : (decide (n < 0) || decide (1000 < n)) = false := by simpa using hn
        have hn0 : 0 ≤ n := by omega
        simp +contextual only [hc, hn', g0, ↓wpA1, ↓wpA2, ↓wpA3, wpB1, wpB2, wpB3, wpB4, wpB5, wpB6, repeatV, RX.evs, spl, over, ones, Ex.ends, evR, oneOf, Option.isSome_some, Option.getD_some, if_true, if_false, true_and, and_true, List.getElem?_cons_zero, List.getElem?_cons_succ, List.length_cons, List.length_nil, List.drop_zero, List.drop_succ_cons, List.take_succ_cons, List.take_zero, List.cons_append, List.nil_append, Option.some.injEq, exists_eq_left', top, List.cons.injEq, ↓reduceIte, Nat.reduceEqDiff, Nat.reduceLeDiff, Nat.reduceAdd, Nat.reduceSub, Nat.reduceMul, reduceCtorEq, Nat.succ_ne_zero, imp_T, imp_F, List.getElem?_nil, Int.reduceEq, Int.reduceLT, Int.reduceLE, Int.reduceNeg, Int.reduceAdd, Int.reduceSub, decide_true, decide_false, eq_self, not_true_eq_false, not_false_eq_true, ite_true, ite_false]
        refine callK_intro (push_api n ht v fs h1 (hv.ext hx2)) ?_
        rintro y h2 ⟨hT, hx3⟩
        have g1 : h2.get (pa h.next) = .ofL [.int .i64 ht, v] 0 false := by
          rw [hx3.get _ (old_lt (by have := hx1.next; simp only [next_new] at this; omega)), g0]
        have nx1 : h.next + 1 ≤ h1.next := hx1.next
        have nx2 := hx3.next
        have n0 : (pa h2.next = pa h.next) = False := by rw [pa_eq]; exact eq_false (by omega)
        have n0' : (h2.next = h.next) = False := eq_false (by omega)
        have n0'' : (h.next = h2.next) = False := eq_false (by omega)
        unfold Told at hT
        rw [hc, decide_eq_true hn0, Bool.and_self, if_pos rfl] at hT
        by_cases hb : 1073741824 - ht < n
        · rw [if_neg (by simp [pushT, hb])] at hT
          have e1 : (pushT n ht fs).1 = 8 := by simp [pushT, hb]
          subst hT
          simp +contextual only [zeroS, e1, g1, n0, n0', n0'', ↓wpA1, ↓wpA2, ↓wpA3, wpB1, wpB2, wpB3, wpB4, wpB5, wpB6, repeatV, RX.evs, spl, over, ones, Ex.ends, evR, oneOf, Option.isSome_some, Option.getD_some, if_true, if_false, true_and, and_true, List.getElem?_cons_zero, List.getElem?_cons_succ, List.length_cons, List.length_nil, List.drop_zero, List.drop_succ_cons, List.take_succ_cons, List.take_zero, List.cons_append, List.nil_append, Option.some.injEq, exists_eq_left', top, List.cons.injEq, ↓reduceIte, Nat.reduceEqDiff, Nat.reduceLeDiff, Nat.reduceAdd, Nat.reduceSub, Nat.reduceMul, reduceCtorEq, Nat.succ_ne_zero, imp_T, imp_F, List.getElem?_nil, Int.reduceEq, Int.reduceLT, Int.reduceLE, Int.reduceNeg, Int.reduceAdd, Int.reduceSub, decide_true, decide_false, eq_self, not_true_eq_false, not_false_eq_true, ite_true, ite_false]
        · rw [if_pos (by simp [pushT, hb])] at hT
          simp only [pushT, hb, if_false] at hT
          obtain ⟨v1, rfl, ho1⟩ := hT
          obtain ⟨one1, cl1, gd1⟩ := ho1.v.one
          have hc2 : checkB (ht + n) fs = true := check_height hc (by omega) (by omega)
          simp +contextual only [g1, n0, n0', n0'', one1, cl1, gd1, ↓wpA1, ↓wpA2, ↓wpA3, wpB1, wpB2, wpB3, wpB4, wpB5, wpB6, repeatV, RX.evs, spl, over, ones, Ex.ends, evR, oneOf, Option.isSome_some, Option.getD_some, if_true, if_false, true_and, and_true, List.getElem?_cons_zero, List.getElem?_cons_succ, List.length_cons, List.length_nil, List.drop_zero, List.drop_succ_cons, List.take_succ_cons, List.take_zero, List.cons_append, List.nil_append, Option.some.injEq, exists_eq_left', top, List.cons.injEq, ↓reduceIte, Nat.reduceEqDiff, Nat.reduceLeDiff, Nat.reduceAdd, Nat.reduceSub, Nat.reduceMul, reduceCtorEq, Nat.succ_ne_zero, imp_T, imp_F, List.getElem?_nil, Int.reduceEq, Int.reduceLT, Int.reduceLE, Int.reduceNeg, Int.reduceAdd, Int.reduceSub, decide_true, decide_false, eq_self, not_true_eq_false, not_false_eq_true, ite_true, ite_false]
          have hxa : Ext h2 ((h2.new (.ofL [.int .i64 0, .nilslice] 0 false)).set (pa h2.next) (.ofL [.int .i64 (ht + n), v1] 0 false)) := ((Ext.refl h2).new _).set (by omega) _
          refine callK_intro (pop_api n (ht + n) v1 fs _ (ho1.v.ext hxa)) ?_
          rintro y h3 ⟨hT, hx4⟩
          have hx5 := hxa.trans hx4
          have hx05 := (hx2.trans hx3).trans hx5
          have g2 : h3.get (pa h.next) = .ofL [.int .i64 ht, v] 0 false := by
            rw [hx5.get _ (old_lt (by omega)), g1]
          have nx3 : h2.next + 1 ≤ h3.next := hx4.next
          have m0' : (h3.next = h.next) = False := eq_false (by omega)
          have m0'' : (h.next = h3.next) = False := eq_false (by omega)
          unfold Told at hT
          rw [hc2, decide_eq_true hn0, Bool.and_self, if_pos rfl] at hT
          have hnb : ¬ (ht + n - (lastF fs).base < n) := by omega
          have ep : popT n (ht + n) fs = (0, ht, fs) := by
            simp only [popT, hnb, false_and, if_false]
            congr 2
            omega
          rw [ep, if_pos rfl] at hT
          obtain ⟨v2, rfl, ho2⟩ := hT
          simp only at ho2
          obtain ⟨one2, cl2, gd2⟩ := ho2.v.one
          simp +contextual only [g2, m0', m0'', one2, cl2, gd2, ↓wpA1, ↓wpA2, ↓wpA3, wpB1, wpB2, wpB3, wpB4, wpB5, wpB6, repeatV, RX.evs, spl, over, ones, Ex.ends, evR, oneOf, Option.isSome_some, Option.getD_some, if_true, if_false, true_and, and_true, List.getElem?_cons_zero, List.getElem?_cons_succ, List.length_cons, List.length_nil, List.drop_zero, List.drop_succ_cons, List.take_succ_cons, List.take_zero, List.cons_append, List.nil_append, Option.some.injEq, exists_eq_left', top, List.cons.injEq, ↓reduceIte, Nat.reduceEqDiff, Nat.reduceLeDiff, Nat.reduceAdd, Nat.reduceSub, Nat.reduceMul, reduceCtorEq, Nat.succ_ne_zero, imp_T, imp_F, List.getElem?_nil, Int.reduceEq, Int.reduceLT, Int.reduceLE, Int.reduceNeg, Int.reduceAdd, Int.reduceSub, decide_true, decide_false, eq_self, not_true_eq_false, not_false_eq_true, ite_true, ite_false]
          have hxb : Ext h3 ((h3.new (.ofL [.int .i64 0, .nilslice] 0 false)).set (pa h3.next) (.ofL [.int .i64 ht, v2] 0 false)) := ((Ext.refl h3).new _).set (by omega) _
          refine callK_intro (same_ctr ht ht v2 v fs fs _ (ho2.v.ext hxb) (hv.ext (hx05.trans hxb)) (by omega)) ?_
          rintro y h4 ⟨rfl, hx6⟩
          rw [decide_eq_true rfl, eqFs_self]
          have hx7 := hxb.trans hx6
          have nx4 : h3.next + 1 ≤ h4.next := hx6.next
          have g3 : h4.get (pa h.next) = .ofL [.int .i64 ht, v] 0 false := by
            rw [hx7.get _ (old_lt (by omega)), g2]
          have k0' : (h4.next = h.next) = False := eq_false (by omega)
          simp +contextual only [g3, k0', ↓wpA1, ↓wpA2, ↓wpA3, wpB1, wpB2, wpB3, wpB4, wpB5, wpB6, repeatV, RX.evs, spl, over, ones, Ex.ends, evR, oneOf, Option.isSome_some, Option.getD_some, if_true, if_false, true_and, and_true, List.getElem?_cons_zero, List.getElem?_cons_succ, List.length_cons, List.length_nil, List.drop_zero, List.drop_succ_cons, List.take_succ_cons, List.take_zero, List.cons_append, List.nil_append, Option.some.injEq, exists_eq_left', top, List.cons.injEq, ↓reduceIte, Nat.reduceEqDiff, Nat.reduceLeDiff, Nat.reduceAdd, Nat.reduceSub, Nat.reduceMul, reduceCtorEq, Nat.succ_ne_zero, imp_T, imp_F, List.getElem?_nil, Int.reduceEq, Int.reduceLT, Int.reduceLE, Int.reduceNeg, Int.reduceAdd, Int.reduceSub, decide_true, decide_false, eq_self, not_true_eq_false, not_false_eq_true, ite_true, ite_false]
          refine callK_intro (pop_api n ht v fs h4 (hv.ext (hx05.trans hx7))) ?_
          rintro y h5 ⟨hT, hx8⟩
          have nx5 := hx8.next
          have g4 : h5.get (pa h.next) = .ofL [.int .i64 ht, v] 0 false := by
            rw [hx8.get _ (old_lt (by omega)), g3]
          have j0' : (h5.next = h.next) = False := eq_false (by omega)
          unfold Told at hT
          rw [hc, decide_eq_true hn0, Bool.and_self, if_pos rfl] at hT
          by_cases he : (popT n ht fs).1 = 0
          · rw [if_pos he] at hT
            obtain ⟨v3, rfl, ho3⟩ := hT
            obtain ⟨one3, cl3, gd3⟩ := ho3.v.one
            have hp : ¬ (ht - (lastF fs).base < n ∧ (lastF fs).dead = false) := by
              intro q
              simp [popT, q] at he
            have e2 : (popT n ht fs).2 = (ht - (if ht - (lastF fs).base < n then ht - (lastF fs).base else n), fs) := by simp only [popT, if_neg hp]
            rw [e2] at ho3 ⊢
            simp only at ho3 ⊢
            have hle : (lastF fs).base ≤ ht - (if ht - (lastF fs).base < n then ht - (lastF fs).base else n) ∧ ht - (if ht - (lastF fs).base < n then ht - (lastF fs).base else n) ≤ ht := by
              split <;> omega
            generalize (ht - (if ht - (lastF fs).base < n then ht - (lastF fs).base else n)) = ht' at ho3 hle ⊢
            have hc3 : checkB ht' fs = true := check_height hc hle.1 (by omega)
            simp +contextual only [g4, j0', one3, cl3, gd3, ↓wpA1, ↓wpA2, ↓wpA3, wpB1, wpB2, wpB3, wpB4, wpB5, wpB6, repeatV, RX.evs, spl, over, ones, Ex.ends, evR, oneOf, Option.isSome_some, Option.getD_some, if_true, if_false, true_and, and_true, List.getElem?_cons_zero, List.getElem?_cons_succ, List.length_cons, List.length_nil, List.drop_zero, List.drop_succ_cons, List.take_succ_cons, List.take_zero, List.cons_append, List.nil_append, Option.some.injEq, exists_eq_left', top, List.cons.injEq, ↓reduceIte, Nat.reduceEqDiff, Nat.reduceLeDiff, Nat.reduceAdd, Nat.reduceSub, Nat.reduceMul, reduceCtorEq, Nat.succ_ne_zero, imp_T, imp_F, List.getElem?_nil, Int.reduceEq, Int.reduceLT, Int.reduceLE, Int.reduceNeg, Int.reduceAdd, Int.reduceSub, decide_true, decide_false, eq_self, not_true_eq_false, not_false_eq_true, ite_true, ite_false]
            have hxc : Ext h5 ((h5.new (.ofL [.int .i64 0, .nilslice] 0 false)).set (pa h5.next) (.ofL [.int .i64 ht', v3] 0 false)) := ((Ext.refl h5).new _).set (by omega) _
            refine callK_intro (check_ctr ht' v3 fs _ (ho3.v.ext hxc)) ?_
            rintro y h6 ⟨rfl, hx9⟩
            have nx6 : h5.next + 1 ≤ h6.next := hx9.next
            have g5 : h6.get (pa h.next) = .ofL [.int .i64 ht, v] 0 false := by
              rw [hx9.get _ (old_lt (by simp only [next_new, next_set]; omega))]
              simp only [g4, j0', ↓wpA1, ↓wpA2, ↓wpA3, wpB1, wpB2, wpB3, wpB4, wpB5, wpB6, repeatV, RX.evs, spl, over, ones, Ex.ends, evR, oneOf, Option.isSome_some, Option.getD_some, if_true, if_false, true_and, and_true, List.getElem?_cons_zero, List.getElem?_cons_succ, List.length_cons, List.length_nil, List.drop_zero, List.drop_succ_cons, List.take_succ_cons, List.take_zero, List.cons_append, List.nil_append, Option.some.injEq, exists_eq_left', top, List.cons.injEq, ↓reduceIte, Nat.reduceEqDiff, Nat.reduceLeDiff, Nat.reduceAdd, Nat.reduceSub, Nat.reduceMul, reduceCtorEq, Nat.succ_ne_zero, imp_T, imp_F, List.getElem?_nil, Int.reduceEq, Int.reduceLT, Int.reduceLE, Int.reduceNeg, Int.reduceAdd, Int.reduceSub, decide_true, decide_false, eq_self, not_true_eq_false, not_false_eq_true, ite_true, ite_false]
            have g6 : h6.get (pa h5.next) = .ofL [.int .i64 ht', v3] 0 false := by
              rw [hx9.get _ (old_lt (by simp only [next_new, next_set]; omega))]
              simp only [↓wpA1, ↓wpA2, ↓wpA3, wpB1, wpB2, wpB3, wpB4, wpB5, wpB6, repeatV, RX.evs, spl, over, ones, Ex.ends, evR, oneOf, Option.isSome_some, Option.getD_some, if_true, if_false, true_and, and_true, List.getElem?_cons_zero, List.getElem?_cons_succ, List.length_cons, List.length_nil, List.drop_zero, List.drop_succ_cons, List.take_succ_cons, List.take_zero, List.cons_append, List.nil_append, Option.some.injEq, exists_eq_left', top, List.cons.injEq, ↓reduceIte, Nat.reduceEqDiff, Nat.reduceLeDiff, Nat.reduceAdd, Nat.reduceSub, Nat.reduceMul, reduceCtorEq, Nat.succ_ne_zero, imp_T, imp_F, List.getElem?_nil, Int.reduceEq, Int.reduceLT, Int.reduceLE, Int.reduceNeg, Int.reduceAdd, Int.reduceSub, decide_true, decide_false, eq_self, not_true_eq_false, not_false_eq_true, ite_true, ite_false]
            have hle2 : (ht' ≤ ht) = True := eq_true hle.2
            simp +contextual only [hc3, hle2, g5, g6, ↓wpA1, ↓wpA2, ↓wpA3, wpB1, wpB2, wpB3, wpB4, wpB5, wpB6, repeatV, RX.evs, spl, over, ones, Ex.ends, evR, oneOf, Option.isSome_some, Option.getD_some, if_true, if_false, true_and, and_true, List.getElem?_cons_zero, List.getElem?_cons_succ, List.length_cons, List.length_nil, List.drop_zero, List.drop_succ_cons, List.take_succ_cons, List.take_zero, List.cons_append, List.nil_append, Option.some.injEq, exists_eq_left', top, List.cons.injEq, ↓reduceIte, Nat.reduceEqDiff, Nat.reduceLeDiff, Nat.reduceAdd, Nat.reduceSub, Nat.reduceMul, reduceCtorEq, Nat.succ_ne_zero, imp_T, imp_F, List.getElem?_nil, Int.reduceEq, Int.reduceLT, Int.reduceLE, Int.reduceNeg, Int.reduceAdd, Int.reduceSub, decide_true, decide_false, eq_self, not_true_eq_false, not_false_eq_true, ite_true, ite_false]
          · rw [if_neg he] at hT
            subst hT
            have he' : ((popT n ht fs).1 = 0) = False := eq_false he
            simp +contextual only [zeroS, he', g4, j0', ↓wpA1, ↓wpA2, ↓wpA3, wpB1, wpB2, wpB3, wpB4, wpB5, wpB6, repeatV, RX.evs, spl, over, ones, Ex.ends, evR, oneOf, Option.isSome_some, Option.getD_some, if_true, if_false, true_and, and_true, List.getElem?_cons_zero, List.getElem?_cons_succ, List.length_cons, List.length_nil, List.drop_zero, List.drop_succ_cons, List.take_succ_cons, List.take_zero, List.cons_append, List.nil_append, Option.some.injEq, exists_eq_left', top, List.cons.injEq, ↓reduceIte, Nat.reduceEqDiff, Nat.reduceLeDiff, Nat.reduceAdd, Nat.reduceSub, Nat.reduceMul, reduceCtorEq, Nat.succ_ne_zero, imp_T, imp_F, List.getElem?_nil, Int.reduceEq, Int.reduceLT, Int.reduceLE, Int.reduceNeg, Int.reduceAdd, Int.reduceSub, decide_true, decide_false, eq_self, not_true_eq_false, not_false_eq_true, ite_true, ite_false]
end Go.Proofs.Ytkjifhoiiciblaa

namespace Go.Proofs.Ytkjifhoiiciblaa
open Go Am
set_option linter.unusedSimpArgs false
set_option linter.unusedVariables false

theorem told_both {B1 B2 : Nat} {T : Turn} {fine : Bool} {ht ht1 e1 : Int} {v1 : V} {fs : List Fm} {x2 : V} {h1 h2 : Heap} (H1 : Told B1 T fine ht fs (.tuple [.agg [.int .i64 ht1, v1], .int .i64 e1]) h1) (H2 : Told B2 T fine ht fs x2 h2) (hl : (T ht fs).2.2.length ≤ 100000) :
    ∃ gs v2, x2 = .tuple [.agg [.int .i64 ht1, v2], .int .i64 e1] ∧ SlO B1 h1 4 v1 gs.length (encs gs) ∧ SlO B2 h2 4 v2 gs.length (encs gs) ∧ gs.length ≤ 100000 := by
  have hn : ∀ (B : Nat) (h : Heap), SlO B h 4 .nilslice ([] : List Fm).length (encs []) := fun B h => ⟨rfl, rfl⟩
  unfold Told at H1 H2
  split at H1
  · rename_i c
    rw [if_pos c] at H2
    split at H1
    · rename_i c2
      rw [if_pos c2] at H2
      obtain ⟨w1, e, o1⟩ := H1
      obtain ⟨w2, rfl, o2⟩ := H2
      simp only [V.tuple.injEq, V.agg.injEq, V.int.injEq, List.cons.injEq, and_true, true_and] at e
      obtain ⟨⟨rfl, rfl⟩, rfl⟩ := e
      exact ⟨_, w2, rfl, o1, o2, hl⟩
    · rename_i c2
      rw [if_neg c2] at H2
      simp only [zeroS, V.tuple.injEq, V.agg.injEq, V.int.injEq, List.cons.injEq, and_true, true_and] at H1
      obtain ⟨⟨rfl, rfl⟩, rfl⟩ := H1
      exact ⟨[], _, H2, hn _ _, hn _ _, by simp⟩
  · rename_i c
    rw [if_neg c] at H2
    simp only [zeroS, V.tuple.injEq, V.agg.injEq, V.int.injEq, List.cons.injEq, and_true, true_and] at H1
    obtain ⟨⟨rfl, rfl⟩, rfl⟩ := H1
    exact ⟨[], _, H2, hn _ _, hn _ _, by simp⟩

theorem push_len (n ht : Int) (fs : List Fm) : (pushT n ht fs).2.2.length ≤ fs.length := by unfold pushT; split <;> simp
theorem pop_len (n ht : Int) (fs : List Fm) : (popT n ht fs).2.2.length ≤ fs.length := by unfold popT; split <;> simp
theorem dead_len (ht : Int) (fs : List Fm) : (deadT ht fs).2.2.length ≤ fs.length := by unfold deadT; simp
theorem enter_len (op res ht : Int) (fs : List Fm) : (enterT op res ht fs).2.2.length ≤ fs.length + 1 := by unfold enterT; split <;> simp
theorem leave_len (ht : Int) (fs : List Fm) : (leaveT ht fs).2.2.length ≤ fs.length := by unfold leaveT; split <;> (try split) <;> simp <;> omega

def NewT (B : Nat) (res : Int) (x : V) (h : Heap) : Prop := if res < 0 ∨ 1 < res then x = .tuple [zeroS, .int .i64 2] else ∃ v2, x = .tuple [.agg [.int .i64 0, v2], .int .i64 0] ∧ SlO B h 4 v2 1 (encs [⟨0, 0, res, false⟩])
theorem new_shape {B : Nat} {res : Int} {x : V} {h : Heap} (H : NewT B res x h) : ∃ v' e, x = .tuple [.agg [.int .i64 0, v'], .int .i64 e] ∧ v'.one = true ∧ v'.cells = [v'] ∧ v'.good = true := by
  unfold NewT at H
  split at H
  · exact ⟨_, _, H, rfl, rfl, rfl⟩
  · obtain ⟨v2, rfl, o⟩ := H
    exact ⟨_, _, rfl, o.v.one⟩
theorem new_both {B1 B2 : Nat} {res e1 : Int} {v1 x2 : V} {h1 h2 : Heap} (H1 : NewT B1 res (.tuple [.agg [.int .i64 0, v1], .int .i64 e1]) h1) (H2 : NewT B2 res x2 h2) :
    ∃ gs v2, x2 = .tuple [.agg [.int .i64 0, v2], .int .i64 e1] ∧ SlO B1 h1 4 v1 gs.length (encs gs) ∧ SlO B2 h2 4 v2 gs.length (encs gs) ∧ gs.length ≤ 100000 := by
  have hn : ∀ (B : Nat) (h : Heap), SlO B h 4 .nilslice ([] : List Fm).length (encs []) := fun B h => ⟨rfl, rfl⟩
  unfold NewT at H1 H2
  split at H1
  · rename_i c
    rw [if_pos c] at H2
    simp only [zeroS, V.tuple.injEq, V.agg.injEq, V.int.injEq, List.cons.injEq, and_true, true_and] at H1
    obtain ⟨rfl, rfl⟩ := H1
    exact ⟨[], _, H2, hn _ _, hn _ _, by simp⟩
  · rename_i c
    rw [if_neg c] at H2
    obtain ⟨w1, e, o1⟩ := H1
    obtain ⟨w2, rfl, o2⟩ := H2
    simp only [V.tuple.injEq, V.agg.injEq, V.int.injEq, List.cons.injEq, and_true, true_and] at e
    obtain ⟨rfl, rfl⟩ := e
    exact ⟨[⟨0, 0, res, false⟩], w2, rfl, o1, o2, by simp⟩

set_option maxHeartbeats 4000000 in
/-- the law StackTells, of a stand that is not too long -/
theorem stackTells (n op res ht : Int) (v : V) (fs : List Fm) (h : Heap) (hv : SlV h 4 v fs.length (encs fs)) (hlen : fs.length ≤ 1100) : Ctr Try.prog 4 [.agg [.int .i64 ht, v], .int .i64 n, .int .i64 op, .int .i64 res] h fun y _ => y = .bool true := by
  obtain ⟨one0, cl0, gd0⟩ := hv.one
  have hl := hv.len
  have hni : ¬ ((1100 : Int) < (fs.length : Int)) := by omega
  refine c4_ctr rfl (wpK_of ?_)
  unfold c4
  simp +contextual only [hni, hl, one0, cl0, gd0, ↓wpA1, ↓wpA2, ↓wpA3, wpB1, wpB2, wpB3, wpB4, wpB5, wpB6, repeatV, RX.evs, spl, over, ones, Ex.ends, evR, oneOf, Option.isSome_some, Option.getD_some, if_true, if_false, true_and, and_true, List.getElem?_cons_zero, List.getElem?_cons_succ, List.length_cons, List.length_nil, List.drop_zero, List.drop_succ_cons, List.take_succ_cons, List.take_zero, List.cons_append, List.nil_append, Option.some.injEq, exists_eq_left', top, List.cons.injEq, ↓reduceIte, Nat.reduceEqDiff, Nat.reduceLeDiff, Nat.reduceAdd, Nat.reduceSub, Nat.reduceMul, reduceCtorEq, Nat.succ_ne_zero, imp_T, imp_F, List.getElem?_nil, Int.reduceEq, Int.reduceLT, Int.reduceLE, Int.reduceNeg, Int.reduceAdd, Int.reduceSub, decide_true, decide_false, eq_self, not_true_eq_false, not_false_eq_true, ite_true, ite_false]
  have hx0 : Ext h (h.new (.ofL [.int .i64 ht, v] 0 false)) := (Ext.refl h).new _
  refine callK_intro (own_ctr ht v fs _ (hv.ext hx0) (by omega)) ?_
  rintro x i0 ⟨⟨vi, rfl, oi⟩, hx1⟩
  obtain ⟨onei, cli, gdi⟩ := oi.v.one
  have ni0 : h.next + 1 ≤ i0.next := hx1.next
  replace oi : SlO (h.next + 1) i0 4 vi fs.length (encs fs) := oi
  have hvb : ∀ b, v.blk b → unPa b < h.next := fun b hb => hv.old hb
  have hib : ∀ b, vi.blk b → h.next + 1 ≤ unPa b ∧ unPa b < i0.next := fun b hb => ⟨oi.base hb, oi.v.old hb⟩
  have nv : ∀ i, h.next ≤ i → ¬ v.blk (pa i) := fun i hi q => by have := hvb _ q; rw [unPa_pa] at this; omega
  have ni : ∀ i, i0.next ≤ i → ¬ vi.blk (pa i) := fun i hi q => by have := hib _ q; rw [unPa_pa] at this; omega
  have iS : i0.get (pa h.next) = .ofL [.int .i64 ht, v] 0 false := by
    rw [hx1.get _ (old_lt (by simp only [next_new]; omega))]
    simp only [↓wpA1, ↓wpA2, ↓wpA3, wpB1, wpB2, wpB3, wpB4, wpB5, wpB6, repeatV, RX.evs, spl, over, ones, Ex.ends, evR, oneOf, Option.isSome_some, Option.getD_some, if_true, if_false, true_and, and_true, List.getElem?_cons_zero, List.getElem?_cons_succ, List.length_cons, List.length_nil, List.drop_zero, List.drop_succ_cons, List.take_succ_cons, List.take_zero, List.cons_append, List.nil_append, Option.some.injEq, exists_eq_left', top, List.cons.injEq, ↓reduceIte, Nat.reduceEqDiff, Nat.reduceLeDiff, Nat.reduceAdd, Nat.reduceSub, Nat.reduceMul, reduceCtorEq, Nat.succ_ne_zero, imp_T, imp_F, List.getElem?_nil, Int.reduceEq, Int.reduceLT, Int.reduceLE, Int.reduceNeg, Int.reduceAdd, Int.reduceSub, decide_true, decide_false, eq_self, not_true_eq_false, not_false_eq_true, ite_true, ite_false]
  have q1 : (i0.next = h.next) = False := eq_false (by omega)
  have q2 : (h.next = i0.next) = False := eq_false (by omega)
  simp +contextual only [q1, q2, iS, onei, cli, gdi, ↓wpA1, ↓wpA2, ↓wpA3, wpB1, wpB2, wpB3, wpB4, wpB5, wpB6, repeatV, RX.evs, spl, over, ones, Ex.ends, evR, oneOf, Option.isSome_some, Option.getD_some, if_true, if_false, true_and, and_true, List.getElem?_cons_zero, List.getElem?_cons_succ, List.length_cons, List.length_nil, List.drop_zero, List.drop_succ_cons, List.take_succ_cons, List.take_zero, List.cons_append, List.nil_append, Option.some.injEq, exists_eq_left', top, List.cons.injEq, ↓reduceIte, Nat.reduceEqDiff, Nat.reduceLeDiff, Nat.reduceAdd, Nat.reduceSub, Nat.reduceMul, reduceCtorEq, Nat.succ_ne_zero, imp_T, imp_F, List.getElem?_nil, Int.reduceEq, Int.reduceLT, Int.reduceLE, Int.reduceNeg, Int.reduceAdd, Int.reduceSub, decide_true, decide_false, eq_self, not_true_eq_false, not_false_eq_true, ite_true, ite_false]
  generalize eg : ((i0.new (.ofL [.int .i64 0, .nilslice] 0 false)).set (pa i0.next) (.ofL [.int .i64 ht, vi] 0 false)) = g1
  have hxg : Ext i0 g1 := by rw [← eg]; exact ((Ext.refl _).new _).set (by omega) _
  have ng1 : g1.next = i0.next + 1 := by rw [← eg]; rfl
  have kv1 : SlV g1 4 v fs.length (encs fs) := (((hv.ext hx0).ext hx1)).ext hxg
  have ki1 : SlV g1 4 vi fs.length (encs fs) := oi.v.ext hxg
  have gS1 : g1.get (pa h.next) = .ofL [.int .i64 ht, v] 0 false := by rw [hxg.get _ (old_lt (by omega)), iS]
  have gI1 : g1.get (pa i0.next) = .ofL [.int .i64 ht, vi] 0 false := by rw [← eg]; simp only [↓wpA1, ↓wpA2, ↓wpA3, wpB1, wpB2, wpB3, wpB4, wpB5, wpB6, repeatV, RX.evs, spl, over, ones, Ex.ends, evR, oneOf, Option.isSome_some, Option.getD_some, if_true, if_false, true_and, and_true, List.getElem?_cons_zero, List.getElem?_cons_succ, List.length_cons, List.length_nil, List.drop_zero, List.drop_succ_cons, List.take_succ_cons, List.take_zero, List.cons_append, List.nil_append, Option.some.injEq, exists_eq_left', top, List.cons.injEq, ↓reduceIte, Nat.reduceEqDiff, Nat.reduceLeDiff, Nat.reduceAdd, Nat.reduceSub, Nat.reduceMul, reduceCtorEq, Nat.succ_ne_zero, imp_T, imp_F, List.getElem?_nil, Int.reduceEq, Int.reduceLT, Int.reduceLE, Int.reduceNeg, Int.reduceAdd, Int.reduceSub, decide_true, decide_false, eq_self, not_true_eq_false, not_false_eq_true, ite_true, ite_false]
  clear eg hxg
  -- round 1
  refine callK_intro (push_api n ht vi fs g1 ki1) ?_
  rintro x a1 ⟨hT1, ha1⟩
  have na1 := ha1.next
  obtain ⟨t1, u1, e1, rfl, oneu1, clu1, gdu1⟩ := told_shape hT1
  have aS1 : a1.get (pa h.next) = .ofL [.int .i64 ht, v] 0 false := by rw [ha1.get _ (old_lt (by omega)), gS1]
  have aI1 : a1.get (pa i0.next) = .ofL [.int .i64 ht, vi] 0 false := by rw [ha1.get _ (old_lt (by omega)), gI1]
  have q3 : (a1.next = h.next) = False := eq_false (by omega)
  have q4 : (h.next = a1.next) = False := eq_false (by omega)
  have q5 : (a1.next = i0.next) = False := eq_false (by omega)
  have q6 : (i0.next = a1.next) = False := eq_false (by omega)
  simp +contextual only [aS1, aI1, q1, q2, q3, q4, q5, q6, oneu1, clu1, gdu1, ↓wpA1, ↓wpA2, ↓wpA3, wpB1, wpB2, wpB3, wpB4, wpB5, wpB6, repeatV, RX.evs, spl, over, ones, Ex.ends, evR, oneOf, Option.isSome_some, Option.getD_some, if_true, if_false, true_and, and_true, List.getElem?_cons_zero, List.getElem?_cons_succ, List.length_cons, List.length_nil, List.drop_zero, List.drop_succ_cons, List.take_succ_cons, List.take_zero, List.cons_append, List.nil_append, Option.some.injEq, exists_eq_left', top, List.cons.injEq, ↓reduceIte, Nat.reduceEqDiff, Nat.reduceLeDiff, Nat.reduceAdd, Nat.reduceSub, Nat.reduceMul, reduceCtorEq, Nat.succ_ne_zero, imp_T, imp_F, List.getElem?_nil, Int.reduceEq, Int.reduceLT, Int.reduceLE, Int.reduceNeg, Int.reduceAdd, Int.reduceSub, decide_true, decide_false, eq_self, not_true_eq_false, not_false_eq_true, ite_true, ite_false]
  generalize ec1 : ((a1.new (.ofL [.int .i64 0, .nilslice] 0 false)).set (pa a1.next) (.ofL [.int .i64 t1, u1] 0 false)) = c1
  have hc1 : Mod (fun b => b = pa a1.next) a1 c1 := by rw [← ec1]; exact ((Mod.refl (fun b => b = pa a1.next) a1).new _).set (fun _ => rfl) _
  have nc1 : c1.next = a1.next + 1 := by rw [← ec1]; rfl
  have cA1 : c1.get (pa a1.next) = .ofL [.int .i64 t1, u1] 0 false := by rw [← ec1]; simp only [↓wpA1, ↓wpA2, ↓wpA3, wpB1, wpB2, wpB3, wpB4, wpB5, wpB6, repeatV, RX.evs, spl, over, ones, Ex.ends, evR, oneOf, Option.isSome_some, Option.getD_some, if_true, if_false, true_and, and_true, List.getElem?_cons_zero, List.getElem?_cons_succ, List.length_cons, List.length_nil, List.drop_zero, List.drop_succ_cons, List.take_succ_cons, List.take_zero, List.cons_append, List.nil_append, Option.some.injEq, exists_eq_left', top, List.cons.injEq, ↓reduceIte, Nat.reduceEqDiff, Nat.reduceLeDiff, Nat.reduceAdd, Nat.reduceSub, Nat.reduceMul, reduceCtorEq, Nat.succ_ne_zero, imp_T, imp_F, List.getElem?_nil, Int.reduceEq, Int.reduceLT, Int.reduceLE, Int.reduceNeg, Int.reduceAdd, Int.reduceSub, decide_true, decide_false, eq_self, not_true_eq_false, not_false_eq_true, ite_true, ite_false]
  clear ec1
  have cS1 : c1.get (pa h.next) = .ofL [.int .i64 ht, v] 0 false := by rw [hc1.get _ (old_lt (by omega)) (fun q => by rw [pa_eq] at q; omega), aS1]
  have cI1 : c1.get (pa i0.next) = .ofL [.int .i64 ht, vi] 0 false := by rw [hc1.get _ (old_lt (by omega)) (fun q => by rw [pa_eq] at q; omega), aI1]
  have kvc1 : SlV c1 4 v fs.length (encs fs) := (kv1.ext ha1).mod hc1 fun b hb q => nv a1.next (by omega) (q ▸ hb)
  have kic1 : SlV c1 4 vi fs.length (encs fs) := (ki1.ext ha1).mod hc1 fun b hb q => ni a1.next (by omega) (q ▸ hb)
  refine callK_intro (ref_push n ht v fs c1 kvc1) ?_
  rintro x b1 ⟨hR1, hb1⟩
  have nb1 := hb1.next
  obtain ⟨gs1, w1, rfl, o1, o2, lg1⟩ := told_both hT1 hR1 (by have := push_len n ht fs; omega)
  clear hT1 hR1
  obtain ⟨onew1, clw1, gdw1⟩ := o2.v.one
  have bS1 : b1.get (pa h.next) = .ofL [.int .i64 ht, v] 0 false := by rw [hb1.get _ (old_lt (by omega)), cS1]
  have bI1 : b1.get (pa i0.next) = .ofL [.int .i64 ht, vi] 0 false := by rw [hb1.get _ (old_lt (by omega)), cI1]
  have bA1 : b1.get (pa a1.next) = .ofL [.int .i64 t1, u1] 0 false := by rw [hb1.get _ (old_lt (by omega)), cA1]
  have q7 : (b1.next = h.next) = False := eq_false (by omega)
  have q8 : (h.next = b1.next) = False := eq_false (by omega)
  have q9 : (b1.next = i0.next) = False := eq_false (by omega)
  have q10 : (i0.next = b1.next) = False := eq_false (by omega)
  have q11 : (b1.next = a1.next) = False := eq_false (by omega)
  have q12 : (a1.next = b1.next) = False := eq_false (by omega)
  simp +contextual only [bS1, bI1, bA1, q1, q2, q3, q4, q5, q6, q7, q8, q9, q10, q11, q12, onew1, clw1, gdw1, ↓wpA1, ↓wpA2, ↓wpA3, wpB1, wpB2, wpB3, wpB4, wpB5, wpB6, repeatV, RX.evs, spl, over, ones, Ex.ends, evR, oneOf, Option.isSome_some, Option.getD_some, if_true, if_false, true_and, and_true, List.getElem?_cons_zero, List.getElem?_cons_succ, List.length_cons, List.length_nil, List.drop_zero, List.drop_succ_cons, List.take_succ_cons, List.take_zero, List.cons_append, List.nil_append, Option.some.injEq, exists_eq_left', top, List.cons.injEq, ↓reduceIte, Nat.reduceEqDiff, Nat.reduceLeDiff, Nat.reduceAdd, Nat.reduceSub, Nat.reduceMul, reduceCtorEq, Nat.succ_ne_zero, imp_T, imp_F, List.getElem?_nil, Int.reduceEq, Int.reduceLT, Int.reduceLE, Int.reduceNeg, Int.reduceAdd, Int.reduceSub, decide_true, decide_false, eq_self, not_true_eq_false, not_false_eq_true, ite_true, ite_false]
  generalize ed1 : ((b1.new (.ofL [.int .i64 0, .nilslice] 0 false)).set (pa b1.next) (.ofL [.int .i64 t1, w1] 0 false)) = d1
  have hd1 : Mod (fun b => b = pa b1.next) b1 d1 := by rw [← ed1]; exact ((Mod.refl (fun b => b = pa b1.next) b1).new _).set (fun _ => rfl) _
  have nd1 : d1.next = b1.next + 1 := by rw [← ed1]; rfl
  have dB1 : d1.get (pa b1.next) = .ofL [.int .i64 t1, w1] 0 false := by rw [← ed1]; simp only [↓wpA1, ↓wpA2, ↓wpA3, wpB1, wpB2, wpB3, wpB4, wpB5, wpB6, repeatV, RX.evs, spl, over, ones, Ex.ends, evR, oneOf, Option.isSome_some, Option.getD_some, if_true, if_false, true_and, and_true, List.getElem?_cons_zero, List.getElem?_cons_succ, List.length_cons, List.length_nil, List.drop_zero, List.drop_succ_cons, List.take_succ_cons, List.take_zero, List.cons_append, List.nil_append, Option.some.injEq, exists_eq_left', top, List.cons.injEq, ↓reduceIte, Nat.reduceEqDiff, Nat.reduceLeDiff, Nat.reduceAdd, Nat.reduceSub, Nat.reduceMul, reduceCtorEq, Nat.succ_ne_zero, imp_T, imp_F, List.getElem?_nil, Int.reduceEq, Int.reduceLT, Int.reduceLE, Int.reduceNeg, Int.reduceAdd, Int.reduceSub, decide_true, decide_false, eq_self, not_true_eq_false, not_false_eq_true, ite_true, ite_false]
  clear ed1
  have dS1 : d1.get (pa h.next) = .ofL [.int .i64 ht, v] 0 false := by rw [hd1.get _ (old_lt (by omega)) (fun q => by rw [pa_eq] at q; omega), bS1]
  have dI1 : d1.get (pa i0.next) = .ofL [.int .i64 ht, vi] 0 false := by rw [hd1.get _ (old_lt (by omega)) (fun q => by rw [pa_eq] at q; omega), bI1]
  have dA1 : d1.get (pa a1.next) = .ofL [.int .i64 t1, u1] 0 false := by rw [hd1.get _ (old_lt (by omega)) (fun q => by rw [pa_eq] at q; omega), bA1]
  have ub1 : ∀ b, u1.blk b → g1.next ≤ unPa b ∧ unPa b < a1.next := fun b hb => ⟨o1.base hb, o1.v.old hb⟩
  have wb1 : ∀ b, w1.blk b → c1.next ≤ unPa b ∧ unPa b < b1.next := fun b hb => ⟨o2.base hb, o2.v.old hb⟩
  have oa1 : SlO g1.next d1 4 u1 gs1.length (encs gs1) := ((o1.mod hc1 fun b hb q => by have := ub1 b hb; rw [q, unPa_pa] at this; omega).ext hb1).mod hd1 fun b hb q => by have := ub1 b hb; rw [q, unPa_pa] at this; omega
  have ob1 : SlV d1 4 w1 gs1.length (encs gs1) := o2.v.mod hd1 fun b hb q => by have := wb1 b hb; rw [q, unPa_pa] at this; omega
  have kvd1 : SlV d1 4 v fs.length (encs fs) := (kvc1.ext hb1).mod hd1 fun b hb q => nv b1.next (by omega) (q ▸ hb)
  have kid1 : SlV d1 4 vi fs.length (encs fs) := (kic1.ext hb1).mod hd1 fun b hb q => ni b1.next (by omega) (q ▸ hb)
  clear o1 o2
  refine callK_intro (told_ctr t1 t1 ht ht e1 e1 u1 w1 vi v gs1 gs1 fs g1.next _ oa1 ob1 lg1 kid1 kvd1 (by omega) (fun b hb q => by have := ub1 b hb; have := hib b q; omega) (fun b hb q => by have := ub1 b hb; have := hvb b q; omega) rfl rfl rfl rfl) ?_
  rintro x g2 ⟨rfl, hm1⟩
  have nm1 := hm1.next
  have nu1 : ∀ i, i < g1.next → ¬ u1.blk (pa i) := fun i hi q => by have := ub1 _ q; rw [unPa_pa] at this; omega
  have gS2 : g2.get (pa h.next) = .ofL [.int .i64 ht, v] 0 false := by rw [hm1.get _ (old_lt (by omega)) (nu1 _ (by omega)), dS1]
  have gI2 : g2.get (pa i0.next) = .ofL [.int .i64 ht, vi] 0 false := by rw [hm1.get _ (old_lt (by omega)) (nu1 _ (by omega)), dI1]
  have gA2 : g2.get (pa a1.next) = .ofL [.int .i64 t1, u1] 0 false := by rw [hm1.get _ (old_lt (by omega)) (fun q => by have := ub1 _ q; rw [unPa_pa] at this; omega), dA1]
  have gB2 : g2.get (pa b1.next) = .ofL [.int .i64 t1, w1] 0 false := by rw [hm1.get _ (old_lt (by omega)) (fun q => by have := ub1 _ q; rw [unPa_pa] at this; omega), dB1]
  have kv2 : SlV g2 4 v fs.length (encs fs) := kvd1.mod hm1 fun b hb q => by have := ub1 b q; have := hvb b hb; omega
  have ki2 : SlV g2 4 vi fs.length (encs fs) := kid1.mod hm1 fun b hb q => by have := ub1 b q; have := hib b hb; omega
  simp +contextual only [gS2, gI2, gA2, gB2, q1, q2, q3, q4, q5, q6, q7, q8, q9, q10, q11, q12, ↓wpA1, ↓wpA2, ↓wpA3, wpB1, wpB2, wpB3, wpB4, wpB5, wpB6, repeatV, RX.evs, spl, over, ones, Ex.ends, evR, oneOf, Option.isSome_some, Option.getD_some, if_true, if_false, true_and, and_true, List.getElem?_cons_zero, List.getElem?_cons_succ, List.length_cons, List.length_nil, List.drop_zero, List.drop_succ_cons, List.take_succ_cons, List.take_zero, List.cons_append, List.nil_append, Option.some.injEq, exists_eq_left', top, List.cons.injEq, ↓reduceIte, Nat.reduceEqDiff, Nat.reduceLeDiff, Nat.reduceAdd, Nat.reduceSub, Nat.reduceMul, reduceCtorEq, Nat.succ_ne_zero, imp_T, imp_F, List.getElem?_nil, Int.reduceEq, Int.reduceLT, Int.reduceLE, Int.reduceNeg, Int.reduceAdd, Int.reduceSub, decide_true, decide_false, eq_self, not_true_eq_false, not_false_eq_true, ite_true, ite_false]
  clear aS1 aI1 cS1 cI1 bS1 bI1 bA1 dS1 dI1 dA1 kvc1 kic1 kvd1 kid1 oa1 ob1 gS1 gI1 kv1 ki1
  -- round 2
  refine callK_intro (pop_api n ht vi fs g2 ki2) ?_
  rintro x a2 ⟨hT2, ha2⟩
  have na2 := ha2.next
  obtain ⟨t2, u2, e2, rfl, oneu2, clu2, gdu2⟩ := told_shape hT2
  have aS2 : a2.get (pa h.next) = .ofL [.int .i64 ht, v] 0 false := by rw [ha2.get _ (old_lt (by omega)), gS2]
  have aI2 : a2.get (pa i0.next) = .ofL [.int .i64 ht, vi] 0 false := by rw [ha2.get _ (old_lt (by omega)), gI2]
  have aA2 : a2.get (pa a1.next) = .ofL [.int .i64 t1, u1] 0 false := by rw [ha2.get _ (old_lt (by omega)), gA2]
  have aB2 : a2.get (pa b1.next) = .ofL [.int .i64 t1, w1] 0 false := by rw [ha2.get _ (old_lt (by omega)), gB2]
  simp +contextual only [aS2, aI2, aA2, aB2, q1, q2, q3, q4, q5, q6, q7, q8, q9, q10, q11, q12, oneu2, clu2, gdu2, ↓wpA1, ↓wpA2, ↓wpA3, wpB1, wpB2, wpB3, wpB4, wpB5, wpB6, repeatV, RX.evs, spl, over, ones, Ex.ends, evR, oneOf, Option.isSome_some, Option.getD_some, if_true, if_false, true_and, and_true, List.getElem?_cons_zero, List.getElem?_cons_succ, List.length_cons, List.length_nil, List.drop_zero, List.drop_succ_cons, List.take_succ_cons, List.take_zero, List.cons_append, List.nil_append, Option.some.injEq, exists_eq_left', top, List.cons.injEq, ↓reduceIte, Nat.reduceEqDiff, Nat.reduceLeDiff, Nat.reduceAdd, Nat.reduceSub, Nat.reduceMul, reduceCtorEq, Nat.succ_ne_zero, imp_T, imp_F, List.getElem?_nil, Int.reduceEq, Int.reduceLT, Int.reduceLE, Int.reduceNeg, Int.reduceAdd, Int.reduceSub, decide_true, decide_false, eq_self, not_true_eq_false, not_false_eq_true, ite_true, ite_false]
  generalize ec2 : a2.set (pa a1.next) (.ofL [.int .i64 t2, u2] 0 false) = c2
  have hc2 : Mod (fun b => b = pa a1.next) a2 c2 := by rw [← ec2]; exact (Mod.refl (fun b => b = pa a1.next) a2).set (fun _ => rfl) _
  have nc2 : c2.next = a2.next := by rw [← ec2]; rfl
  have cA2 : c2.get (pa a1.next) = .ofL [.int .i64 t2, u2] 0 false := by rw [← ec2, get_set, if_pos rfl]
  have cB2 : c2.get (pa b1.next) = .ofL [.int .i64 t1, w1] 0 false := by rw [hc2.get _ (old_lt (by omega)) (fun q => by rw [pa_eq] at q; omega), aB2]
  clear ec2
  have cS2 : c2.get (pa h.next) = .ofL [.int .i64 ht, v] 0 false := by rw [hc2.get _ (old_lt (by omega)) (fun q => by rw [pa_eq] at q; omega), aS2]
  have cI2 : c2.get (pa i0.next) = .ofL [.int .i64 ht, vi] 0 false := by rw [hc2.get _ (old_lt (by omega)) (fun q => by rw [pa_eq] at q; omega), aI2]
  have kvc2 : SlV c2 4 v fs.length (encs fs) := (kv2.ext ha2).mod hc2 fun b hb q => nv a1.next (by omega) (q ▸ hb)
  have kic2 : SlV c2 4 vi fs.length (encs fs) := (ki2.ext ha2).mod hc2 fun b hb q => ni a1.next (by omega) (q ▸ hb)
  refine callK_intro (ref_pop n ht v fs c2 kvc2) ?_
  rintro x b2 ⟨hR2, hb2⟩
  have nb2 := hb2.next
  obtain ⟨gs2, w2, rfl, o1, o2, lg2⟩ := told_both hT2 hR2 (by have := pop_len n ht fs; omega)
  clear hT2 hR2
  obtain ⟨onew2, clw2, gdw2⟩ := o2.v.one
  have bS2 : b2.get (pa h.next) = .ofL [.int .i64 ht, v] 0 false := by rw [hb2.get _ (old_lt (by omega)), cS2]
  have bI2 : b2.get (pa i0.next) = .ofL [.int .i64 ht, vi] 0 false := by rw [hb2.get _ (old_lt (by omega)), cI2]
  have bA2 : b2.get (pa a1.next) = .ofL [.int .i64 t2, u2] 0 false := by rw [hb2.get _ (old_lt (by omega)), cA2]
  have bB2 : b2.get (pa b1.next) = .ofL [.int .i64 t1, w1] 0 false := by rw [hb2.get _ (old_lt (by omega)), cB2]
  simp +contextual only [bS2, bI2, bA2, bB2, q1, q2, q3, q4, q5, q6, q7, q8, q9, q10, q11, q12, onew2, clw2, gdw2, ↓wpA1, ↓wpA2, ↓wpA3, wpB1, wpB2, wpB3, wpB4, wpB5, wpB6, repeatV, RX.evs, spl, over, ones, Ex.ends, evR, oneOf, Option.isSome_some, Option.getD_some, if_true, if_false, true_and, and_true, List.getElem?_cons_zero, List.getElem?_cons_succ, List.length_cons, List.length_nil, List.drop_zero, List.drop_succ_cons, List.take_succ_cons, List.take_zero, List.cons_append, List.nil_append, Option.some.injEq, exists_eq_left', top, List.cons.injEq, ↓reduceIte, Nat.reduceEqDiff, Nat.reduceLeDiff, Nat.reduceAdd, Nat.reduceSub, Nat.reduceMul, reduceCtorEq, Nat.succ_ne_zero, imp_T, imp_F, List.getElem?_nil, Int.reduceEq, Int.reduceLT, Int.reduceLE, Int.reduceNeg, Int.reduceAdd, Int.reduceSub, decide_true, decide_false, eq_self, not_true_eq_false, not_false_eq_true, ite_true, ite_false]
  generalize ed2 : b2.set (pa b1.next) (.ofL [.int .i64 t2, w2] 0 false) = d2
  have hd2 : Mod (fun b => b = pa b1.next) b2 d2 := by rw [← ed2]; exact (Mod.refl (fun b => b = pa b1.next) b2).set (fun _ => rfl) _
  have nd2 : d2.next = b2.next := by rw [← ed2]; rfl
  have dB2 : d2.get (pa b1.next) = .ofL [.int .i64 t2, w2] 0 false := by rw [← ed2, get_set, if_pos rfl]
  clear ed2
  have dS2 : d2.get (pa h.next) = .ofL [.int .i64 ht, v] 0 false := by rw [hd2.get _ (old_lt (by omega)) (fun q => by rw [pa_eq] at q; omega), bS2]
  have dI2 : d2.get (pa i0.next) = .ofL [.int .i64 ht, vi] 0 false := by rw [hd2.get _ (old_lt (by omega)) (fun q => by rw [pa_eq] at q; omega), bI2]
  have dA2 : d2.get (pa a1.next) = .ofL [.int .i64 t2, u2] 0 false := by rw [hd2.get _ (old_lt (by omega)) (fun q => by rw [pa_eq] at q; omega), bA2]
  have ub2 : ∀ b, u2.blk b → g2.next ≤ unPa b ∧ unPa b < a2.next := fun b hb => ⟨o1.base hb, o1.v.old hb⟩
  have wb2 : ∀ b, w2.blk b → c2.next ≤ unPa b ∧ unPa b < b2.next := fun b hb => ⟨o2.base hb, o2.v.old hb⟩
  have oa2 : SlO g2.next d2 4 u2 gs2.length (encs gs2) := ((o1.mod hc2 fun b hb q => by have := ub2 b hb; rw [q, unPa_pa] at this; omega).ext hb2).mod hd2 fun b hb q => by have := ub2 b hb; rw [q, unPa_pa] at this; omega
  have ob2 : SlV d2 4 w2 gs2.length (encs gs2) := o2.v.mod hd2 fun b hb q => by have := wb2 b hb; rw [q, unPa_pa] at this; omega
  have kvd2 : SlV d2 4 v fs.length (encs fs) := (kvc2.ext hb2).mod hd2 fun b hb q => nv b1.next (by omega) (q ▸ hb)
  have kid2 : SlV d2 4 vi fs.length (encs fs) := (kic2.ext hb2).mod hd2 fun b hb q => ni b1.next (by omega) (q ▸ hb)
  clear o1 o2
  refine callK_intro (told_ctr t2 t2 ht ht e2 e2 u2 w2 vi v gs2 gs2 fs g2.next _ oa2 ob2 lg2 kid2 kvd2 (by omega) (fun b hb q => by have := ub2 b hb; have := hib b q; omega) (fun b hb q => by have := ub2 b hb; have := hvb b q; omega) rfl rfl rfl rfl) ?_
  rintro x g3 ⟨rfl, hm2⟩
  have nm2 := hm2.next
  have nu2 : ∀ i, i < g2.next → ¬ u2.blk (pa i) := fun i hi q => by have := ub2 _ q; rw [unPa_pa] at this; omega
  have gS3 : g3.get (pa h.next) = .ofL [.int .i64 ht, v] 0 false := by rw [hm2.get _ (old_lt (by omega)) (nu2 _ (by omega)), dS2]
  have gI3 : g3.get (pa i0.next) = .ofL [.int .i64 ht, vi] 0 false := by rw [hm2.get _ (old_lt (by omega)) (nu2 _ (by omega)), dI2]
  have gA3 : g3.get (pa a1.next) = .ofL [.int .i64 t2, u2] 0 false := by rw [hm2.get _ (old_lt (by omega)) (nu2 _ (by omega)), dA2]
  have gB3 : g3.get (pa b1.next) = .ofL [.int .i64 t2, w2] 0 false := by rw [hm2.get _ (old_lt (by omega)) (nu2 _ (by omega)), dB2]
  have kv3 : SlV g3 4 v fs.length (encs fs) := kvd2.mod hm2 fun b hb q => by have := ub2 b q; have := hvb b hb; omega
  have ki3 : SlV g3 4 vi fs.length (encs fs) := kid2.mod hm2 fun b hb q => by have := ub2 b q; have := hib b hb; omega
  simp +contextual only [gS3, gI3, gA3, gB3, q1, q2, q3, q4, q5, q6, q7, q8, q9, q10, q11, q12, ↓wpA1, ↓wpA2, ↓wpA3, wpB1, wpB2, wpB3, wpB4, wpB5, wpB6, repeatV, RX.evs, spl, over, ones, Ex.ends, evR, oneOf, Option.isSome_some, Option.getD_some, if_true, if_false, true_and, and_true, List.getElem?_cons_zero, List.getElem?_cons_succ, List.length_cons, List.length_nil, List.drop_zero, List.drop_succ_cons, List.take_succ_cons, List.take_zero, List.cons_append, List.nil_append, Option.some.injEq, exists_eq_left', top, List.cons.injEq, ↓reduceIte, Nat.reduceEqDiff, Nat.reduceLeDiff, Nat.reduceAdd, Nat.reduceSub, Nat.reduceMul, reduceCtorEq, Nat.succ_ne_zero, imp_T, imp_F, List.getElem?_nil, Int.reduceEq, Int.reduceLT, Int.reduceLE, Int.reduceNeg, Int.reduceAdd, Int.reduceSub, decide_true, decide_false, eq_self, not_true_eq_false, not_false_eq_true, ite_true, ite_false]
  clear aS2 aI2 cS2 cI2 bS2 bI2 bA2 dS2 dI2 dA2 kvc2 kic2 kvd2 kid2 oa2 ob2 gS2 gI2 kv2 ki2
  -- round 3
  refine callK_intro (dead_api ht vi fs g3 ki3) ?_
  rintro x a3 ⟨hT3, ha3⟩
  have na3 := ha3.next
  obtain ⟨t3, u3, e3, rfl, oneu3, clu3, gdu3⟩ := told_shape hT3
  have aS3 : a3.get (pa h.next) = .ofL [.int .i64 ht, v] 0 false := by rw [ha3.get _ (old_lt (by omega)), gS3]
  have aI3 : a3.get (pa i0.next) = .ofL [.int .i64 ht, vi] 0 false := by rw [ha3.get _ (old_lt (by omega)), gI3]
  have aA3 : a3.get (pa a1.next) = .ofL [.int .i64 t2, u2] 0 false := by rw [ha3.get _ (old_lt (by omega)), gA3]
  have aB3 : a3.get (pa b1.next) = .ofL [.int .i64 t2, w2] 0 false := by rw [ha3.get _ (old_lt (by omega)), gB3]
  simp +contextual only [aS3, aI3, aA3, aB3, q1, q2, q3, q4, q5, q6, q7, q8, q9, q10, q11, q12, oneu3, clu3, gdu3, ↓wpA1, ↓wpA2, ↓wpA3, wpB1, wpB2, wpB3, wpB4, wpB5, wpB6, repeatV, RX.evs, spl, over, ones, Ex.ends, evR, oneOf, Option.isSome_some, Option.getD_some, if_true, if_false, true_and, and_true, List.getElem?_cons_zero, List.getElem?_cons_succ, List.length_cons, List.length_nil, List.drop_zero, List.drop_succ_cons, List.take_succ_cons, List.take_zero, List.cons_append, List.nil_append, Option.some.injEq, exists_eq_left', top, List.cons.injEq, ↓reduceIte, Nat.reduceEqDiff, Nat.reduceLeDiff, Nat.reduceAdd, Nat.reduceSub, Nat.reduceMul, reduceCtorEq, Nat.succ_ne_zero, imp_T, imp_F, List.getElem?_nil, Int.reduceEq, Int.reduceLT, Int.reduceLE, Int.reduceNeg, Int.reduceAdd, Int.reduceSub, decide_true, decide_false, eq_self, not_true_eq_false, not_false_eq_true, ite_true, ite_false]
  generalize ec3 : a3.set (pa a1.next) (.ofL [.int .i64 t3, u3] 0 false) = c3
  have hc3 : Mod (fun b => b = pa a1.next) a3 c3 := by rw [← ec3]; exact (Mod.refl (fun b => b = pa a1.next) a3).set (fun _ => rfl) _
  have nc3 : c3.next = a3.next := by rw [← ec3]; rfl
  have cA3 : c3.get (pa a1.next) = .ofL [.int .i64 t3, u3] 0 false := by rw [← ec3, get_set, if_pos rfl]
  have cB3 : c3.get (pa b1.next) = .ofL [.int .i64 t2, w2] 0 false := by rw [hc3.get _ (old_lt (by omega)) (fun q => by rw [pa_eq] at q; omega), aB3]
  clear ec3
  have cS3 : c3.get (pa h.next) = .ofL [.int .i64 ht, v] 0 false := by rw [hc3.get _ (old_lt (by omega)) (fun q => by rw [pa_eq] at q; omega), aS3]
  have cI3 : c3.get (pa i0.next) = .ofL [.int .i64 ht, vi] 0 false := by rw [hc3.get _ (old_lt (by omega)) (fun q => by rw [pa_eq] at q; omega), aI3]
  have kvc3 : SlV c3 4 v fs.length (encs fs) := (kv3.ext ha3).mod hc3 fun b hb q => nv a1.next (by omega) (q ▸ hb)
  have kic3 : SlV c3 4 vi fs.length (encs fs) := (ki3.ext ha3).mod hc3 fun b hb q => ni a1.next (by omega) (q ▸ hb)
  refine callK_intro (ref_dead ht v fs c3 kvc3) ?_
  rintro x b3 ⟨hR3, hb3⟩
  have nb3 := hb3.next
  obtain ⟨gs3, w3, rfl, o1, o2, lg3⟩ := told_both hT3 hR3 (by have := dead_len ht fs; omega)
  clear hT3 hR3
  obtain ⟨onew3, clw3, gdw3⟩ := o2.v.one
  have bS3 : b3.get (pa h.next) = .ofL [.int .i64 ht, v] 0 false := by rw [hb3.get _ (old_lt (by omega)), cS3]
  have bI3 : b3.get (pa i0.next) = .ofL [.int .i64 ht, vi] 0 false := by rw [hb3.get _ (old_lt (by omega)), cI3]
  have bA3 : b3.get (pa a1.next) = .ofL [.int .i64 t3, u3] 0 false := by rw [hb3.get _ (old_lt (by omega)), cA3]
  have bB3 : b3.get (pa b1.next) = .ofL [.int .i64 t2, w2] 0 false := by rw [hb3.get _ (old_lt (by omega)), cB3]
  simp +contextual only [bS3, bI3, bA3, bB3, q1, q2, q3, q4, q5, q6, q7, q8, q9, q10, q11, q12, onew3, clw3, gdw3, ↓wpA1, ↓wpA2, ↓wpA3, wpB1, wpB2, wpB3, wpB4, wpB5, wpB6, repeatV, RX.evs, spl, over, ones, Ex.ends, evR, oneOf, Option.isSome_some, Option.getD_some, if_true, if_false, true_and, and_true, List.getElem?_cons_zero, List.getElem?_cons_succ, List.length_cons, List.length_nil, List.drop_zero, List.drop_succ_cons, List.take_succ_cons, List.take_zero, List.cons_append, List.nil_append, Option.some.injEq, exists_eq_left', top, List.cons.injEq, ↓reduceIte, Nat.reduceEqDiff, Nat.reduceLeDiff, Nat.reduceAdd, Nat.reduceSub, Nat.reduceMul, reduceCtorEq, Nat.succ_ne_zero, imp_T, imp_F, List.getElem?_nil, Int.reduceEq, Int.reduceLT, Int.reduceLE, Int.reduceNeg, Int.reduceAdd, Int.reduceSub, decide_true, decide_false, eq_self, not_true_eq_false, not_false_eq_true, ite_true, ite_false]
  generalize ed3 : b3.set (pa b1.next) (.ofL [.int .i64 t3, w3] 0 false) = d3
  have hd3 : Mod (fun b => b = pa b1.next) b3 d3 := by rw [← ed3]; exact (Mod.refl (fun b => b = pa b1.next) b3).set (fun _ => rfl) _
  have nd3 : d3.next = b3.next := by rw [← ed3]; rfl
  have dB3 : d3.get (pa b1.next) = .ofL [.int .i64 t3, w3] 0 false := by rw [← ed3, get_set, if_pos rfl]
  clear ed3
  have dS3 : d3.get (pa h.next) = .ofL [.int .i64 ht, v] 0 false := by rw [hd3.get _ (old_lt (by omega)) (fun q => by rw [pa_eq] at q; omega), bS3]
  have dI3 : d3.get (pa i0.next) = .ofL [.int .i64 ht, vi] 0 false := by rw [hd3.get _ (old_lt (by omega)) (fun q => by rw [pa_eq] at q; omega), bI3]
  have dA3 : d3.get (pa a1.next) = .ofL [.int .i64 t3, u3] 0 false := by rw [hd3.get _ (old_lt (by omega)) (fun q => by rw [pa_eq] at q; omega), bA3]
  have ub3 : ∀ b, u3.blk b → g3.next ≤ unPa b ∧ unPa b < a3.next := fun b hb => ⟨o1.base hb, o1.v.old hb⟩
  have wb3 : ∀ b, w3.blk b → c3.next ≤ unPa b ∧ unPa b < b3.next := fun b hb => ⟨o2.base hb, o2.v.old hb⟩
  have oa3 : SlO g3.next d3 4 u3 gs3.length (encs gs3) := ((o1.mod hc3 fun b hb q => by have := ub3 b hb; rw [q, unPa_pa] at this; omega).ext hb3).mod hd3 fun b hb q => by have := ub3 b hb; rw [q, unPa_pa] at this; omega
  have ob3 : SlV d3 4 w3 gs3.length (encs gs3) := o2.v.mod hd3 fun b hb q => by have := wb3 b hb; rw [q, unPa_pa] at this; omega
  have kvd3 : SlV d3 4 v fs.length (encs fs) := (kvc3.ext hb3).mod hd3 fun b hb q => nv b1.next (by omega) (q ▸ hb)
  have kid3 : SlV d3 4 vi fs.length (encs fs) := (kic3.ext hb3).mod hd3 fun b hb q => ni b1.next (by omega) (q ▸ hb)
  clear o1 o2
  refine callK_intro (told_ctr t3 t3 ht ht e3 e3 u3 w3 vi v gs3 gs3 fs g3.next _ oa3 ob3 lg3 kid3 kvd3 (by omega) (fun b hb q => by have := ub3 b hb; have := hib b q; omega) (fun b hb q => by have := ub3 b hb; have := hvb b q; omega) rfl rfl rfl rfl) ?_
  rintro x g4 ⟨rfl, hm3⟩
  have nm3 := hm3.next
  have nu3 : ∀ i, i < g3.next → ¬ u3.blk (pa i) := fun i hi q => by have := ub3 _ q; rw [unPa_pa] at this; omega
  have gS4 : g4.get (pa h.next) = .ofL [.int .i64 ht, v] 0 false := by rw [hm3.get _ (old_lt (by omega)) (nu3 _ (by omega)), dS3]
  have gI4 : g4.get (pa i0.next) = .ofL [.int .i64 ht, vi] 0 false := by rw [hm3.get _ (old_lt (by omega)) (nu3 _ (by omega)), dI3]
  have gA4 : g4.get (pa a1.next) = .ofL [.int .i64 t3, u3] 0 false := by rw [hm3.get _ (old_lt (by omega)) (nu3 _ (by omega)), dA3]
  have gB4 : g4.get (pa b1.next) = .ofL [.int .i64 t3, w3] 0 false := by rw [hm3.get _ (old_lt (by omega)) (nu3 _ (by omega)), dB3]
  have kv4 : SlV g4 4 v fs.length (encs fs) := kvd3.mod hm3 fun b hb q => by have := ub3 b q; have := hvb b hb; omega
  have ki4 : SlV g4 4 vi fs.length (encs fs) := kid3.mod hm3 fun b hb q => by have := ub3 b q; have := hib b hb; omega
  simp +contextual only [gS4, gI4, gA4, gB4, q1, q2, q3, q4, q5, q6, q7, q8, q9, q10, q11, q12, ↓wpA1, ↓wpA2, ↓wpA3, wpB1, wpB2, wpB3, wpB4, wpB5, wpB6, repeatV, RX.evs, spl, over, ones, Ex.ends, evR, oneOf, Option.isSome_some, Option.getD_some, if_true, if_false, true_and, and_true, List.getElem?_cons_zero, List.getElem?_cons_succ, List.length_cons, List.length_nil, List.drop_zero, List.drop_succ_cons, List.take_succ_cons, List.take_zero, List.cons_append, List.nil_append, Option.some.injEq, exists_eq_left', top, List.cons.injEq, ↓reduceIte, Nat.reduceEqDiff, Nat.reduceLeDiff, Nat.reduceAdd, Nat.reduceSub, Nat.reduceMul, reduceCtorEq, Nat.succ_ne_zero, imp_T, imp_F, List.getElem?_nil, Int.reduceEq, Int.reduceLT, Int.reduceLE, Int.reduceNeg, Int.reduceAdd, Int.reduceSub, decide_true, decide_false, eq_self, not_true_eq_false, not_false_eq_true, ite_true, ite_false]
  clear aS3 aI3 cS3 cI3 bS3 bI3 bA3 dS3 dI3 dA3 kvc3 kic3 kvd3 kid3 oa3 ob3 gS3 gI3 kv3 ki3
  -- round 4
  refine callK_intro (enter_api op res ht vi fs g4 ki4) ?_
  rintro x a4 ⟨hT4, ha4⟩
  have na4 := ha4.next
  obtain ⟨t4, u4, e4, rfl, oneu4, clu4, gdu4⟩ := told_shape hT4
  have aS4 : a4.get (pa h.next) = .ofL [.int .i64 ht, v] 0 false := by rw [ha4.get _ (old_lt (by omega)), gS4]
  have aI4 : a4.get (pa i0.next) = .ofL [.int .i64 ht, vi] 0 false := by rw [ha4.get _ (old_lt (by omega)), gI4]
  have aA4 : a4.get (pa a1.next) = .ofL [.int .i64 t3, u3] 0 false := by rw [ha4.get _ (old_lt (by omega)), gA4]
  have aB4 : a4.get (pa b1.next) = .ofL [.int .i64 t3, w3] 0 false := by rw [ha4.get _ (old_lt (by omega)), gB4]
  simp +contextual only [aS4, aI4, aA4, aB4, q1, q2, q3, q4, q5, q6, q7, q8, q9, q10, q11, q12, oneu4, clu4, gdu4, ↓wpA1, ↓wpA2, ↓wpA3, wpB1, wpB2, wpB3, wpB4, wpB5, wpB6, repeatV, RX.evs, spl, over, ones, Ex.ends, evR, oneOf, Option.isSome_some, Option.getD_some, if_true, if_false, true_and, and_true, List.getElem?_cons_zero, List.getElem?_cons_succ, List.length_cons, List.length_nil, List.drop_zero, List.drop_succ_cons, List.take_succ_cons, List.take_zero, List.cons_append, List.nil_append, Option.some.injEq, exists_eq_left', top, List.cons.injEq, ↓reduceIte, Nat.reduceEqDiff, Nat.reduceLeDiff, Nat.reduceAdd, Nat.reduceSub, Nat.reduceMul, reduceCtorEq, Nat.succ_ne_zero, imp_T, imp_F, List.getElem?_nil, Int.reduceEq, Int.reduceLT, Int.reduceLE, Int.reduceNeg, Int.reduceAdd, Int.reduceSub, decide_true, decide_false, eq_self, not_true_eq_false, not_false_eq_true, ite_true, ite_false]
  generalize ec4 : a4.set (pa a1.next) (.ofL [.int .i64 t4, u4] 0 false) = c4
  have hc4 : Mod (fun b => b = pa a1.next) a4 c4 := by rw [← ec4]; exact (Mod.refl (fun b => b = pa a1.next) a4).set (fun _ => rfl) _
  have nc4 : c4.next = a4.next := by rw [← ec4]; rfl
  have cA4 : c4.get (pa a1.next) = .ofL [.int .i64 t4, u4] 0 false := by rw [← ec4, get_set, if_pos rfl]
  have cB4 : c4.get (pa b1.next) = .ofL [.int .i64 t3, w3] 0 false := by rw [hc4.get _ (old_lt (by omega)) (fun q => by rw [pa_eq] at q; omega), aB4]
  clear ec4
  have cS4 : c4.get (pa h.next) = .ofL [.int .i64 ht, v] 0 false := by rw [hc4.get _ (old_lt (by omega)) (fun q => by rw [pa_eq] at q; omega), aS4]
  have cI4 : c4.get (pa i0.next) = .ofL [.int .i64 ht, vi] 0 false := by rw [hc4.get _ (old_lt (by omega)) (fun q => by rw [pa_eq] at q; omega), aI4]
  have kvc4 : SlV c4 4 v fs.length (encs fs) := (kv4.ext ha4).mod hc4 fun b hb q => nv a1.next (by omega) (q ▸ hb)
  have kic4 : SlV c4 4 vi fs.length (encs fs) := (ki4.ext ha4).mod hc4 fun b hb q => ni a1.next (by omega) (q ▸ hb)
  refine callK_intro (ref_enter op res ht v fs c4 kvc4) ?_
  rintro x b4 ⟨hR4, hb4⟩
  have nb4 := hb4.next
  obtain ⟨gs4, w4, rfl, o1, o2, lg4⟩ := told_both hT4 hR4 (by have := enter_len op res ht fs; omega)
  clear hT4 hR4
  obtain ⟨onew4, clw4, gdw4⟩ := o2.v.one
  have bS4 : b4.get (pa h.next) = .ofL [.int .i64 ht, v] 0 false := by rw [hb4.get _ (old_lt (by omega)), cS4]
  have bI4 : b4.get (pa i0.next) = .ofL [.int .i64 ht, vi] 0 false := by rw [hb4.get _ (old_lt (by omega)), cI4]
  have bA4 : b4.get (pa a1.next) = .ofL [.int .i64 t4, u4] 0 false := by rw [hb4.get _ (old_lt (by omega)), cA4]
  have bB4 : b4.get (pa b1.next) = .ofL [.int .i64 t3, w3] 0 false := by rw [hb4.get _ (old_lt (by omega)), cB4]
  simp +contextual only [bS4, bI4, bA4, bB4, q1, q2, q3, q4, q5, q6, q7, q8, q9, q10, q11, q12, onew4, clw4, gdw4, ↓wpA1, ↓wpA2, ↓wpA3, wpB1, wpB2, wpB3, wpB4, wpB5, wpB6, repeatV, RX.evs, spl, over, ones, Ex.ends, evR, oneOf, Option.isSome_some, Option.getD_some, if_true, if_false, true_and, and_true, List.getElem?_cons_zero, List.getElem?_cons_succ, List.length_cons, List.length_nil, List.drop_zero, List.drop_succ_cons, List.take_succ_cons, List.take_zero, List.cons_append, List.nil_append, Option.some.injEq, exists_eq_left', top, List.cons.injEq, ↓reduceIte, Nat.reduceEqDiff, Nat.reduceLeDiff, Nat.reduceAdd, Nat.reduceSub, Nat.reduceMul, reduceCtorEq, Nat.succ_ne_zero, imp_T, imp_F, List.getElem?_nil, Int.reduceEq, Int.reduceLT, Int.reduceLE, Int.reduceNeg, Int.reduceAdd, Int.reduceSub, decide_true, decide_false, eq_self, not_true_eq_false, not_false_eq_true, ite_true, ite_false]
  generalize ed4 : b4.set (pa b1.next) (.ofL [.int .i64 t4, w4] 0 false) = d4
  have hd4 : Mod (fun b => b = pa b1.next) b4 d4 := by rw [← ed4]; exact (Mod.refl (fun b => b = pa b1.next) b4).set (fun _ => rfl) _
  have nd4 : d4.next = b4.next := by rw [← ed4]; rfl
  have dB4 : d4.get (pa b1.next) = .ofL [.int .i64 t4, w4] 0 false := by rw [← ed4, get_set, if_pos rfl]
  clear ed4
  have dS4 : d4.get (pa h.next) = .ofL [.int .i64 ht, v] 0 false := by rw [hd4.get _ (old_lt (by omega)) (fun q => by rw [pa_eq] at q; omega), bS4]
  have dI4 : d4.get (pa i0.next) = .ofL [.int .i64 ht, vi] 0 false := by rw [hd4.get _ (old_lt (by omega)) (fun q => by rw [pa_eq] at q; omega), bI4]
  have dA4 : d4.get (pa a1.next) = .ofL [.int .i64 t4, u4] 0 false := by rw [hd4.get _ (old_lt (by omega)) (fun q => by rw [pa_eq] at q; omega), bA4]
  have ub4 : ∀ b, u4.blk b → g4.next ≤ unPa b ∧ unPa b < a4.next := fun b hb => ⟨o1.base hb, o1.v.old hb⟩
  have wb4 : ∀ b, w4.blk b → c4.next ≤ unPa b ∧ unPa b < b4.next := fun b hb => ⟨o2.base hb, o2.v.old hb⟩
  have oa4 : SlO g4.next d4 4 u4 gs4.length (encs gs4) := ((o1.mod hc4 fun b hb q => by have := ub4 b hb; rw [q, unPa_pa] at this; omega).ext hb4).mod hd4 fun b hb q => by have := ub4 b hb; rw [q, unPa_pa] at this; omega
  have ob4 : SlV d4 4 w4 gs4.length (encs gs4) := o2.v.mod hd4 fun b hb q => by have := wb4 b hb; rw [q, unPa_pa] at this; omega
  have kvd4 : SlV d4 4 v fs.length (encs fs) := (kvc4.ext hb4).mod hd4 fun b hb q => nv b1.next (by omega) (q ▸ hb)
  have kid4 : SlV d4 4 vi fs.length (encs fs) := (kic4.ext hb4).mod hd4 fun b hb q => ni b1.next (by omega) (q ▸ hb)
  clear o1 o2
  refine callK_intro (told_ctr t4 t4 ht ht e4 e4 u4 w4 vi v gs4 gs4 fs g4.next _ oa4 ob4 lg4 kid4 kvd4 (by omega) (fun b hb q => by have := ub4 b hb; have := hib b q; omega) (fun b hb q => by have := ub4 b hb; have := hvb b q; omega) rfl rfl rfl rfl) ?_
  rintro x g5 ⟨rfl, hm4⟩
  have nm4 := hm4.next
  have nu4 : ∀ i, i < g4.next → ¬ u4.blk (pa i) := fun i hi q => by have := ub4 _ q; rw [unPa_pa] at this; omega
  have gS5 : g5.get (pa h.next) = .ofL [.int .i64 ht, v] 0 false := by rw [hm4.get _ (old_lt (by omega)) (nu4 _ (by omega)), dS4]
  have gI5 : g5.get (pa i0.next) = .ofL [.int .i64 ht, vi] 0 false := by rw [hm4.get _ (old_lt (by omega)) (nu4 _ (by omega)), dI4]
  have gA5 : g5.get (pa a1.next) = .ofL [.int .i64 t4, u4] 0 false := by rw [hm4.get _ (old_lt (by omega)) (nu4 _ (by omega)), dA4]
  have gB5 : g5.get (pa b1.next) = .ofL [.int .i64 t4, w4] 0 false := by rw [hm4.get _ (old_lt (by omega)) (nu4 _ (by omega)), dB4]
  have kv5 : SlV g5 4 v fs.length (encs fs) := kvd4.mod hm4 fun b hb q => by have := ub4 b q; have := hvb b hb; omega
  have ki5 : SlV g5 4 vi fs.length (encs fs) := kid4.mod hm4 fun b hb q => by have := ub4 b q; have := hib b hb; omega
  simp +contextual only [gS5, gI5, gA5, gB5, q1, q2, q3, q4, q5, q6, q7, q8, q9, q10, q11, q12, ↓wpA1, ↓wpA2, ↓wpA3, wpB1, wpB2, wpB3, wpB4, wpB5, wpB6, repeatV, RX.evs, spl, over, ones, Ex.ends, evR, oneOf, Option.isSome_some, Option.getD_some, if_true, if_false, true_and, and_true, List.getElem?_cons_zero, List.getElem?_cons_succ, List.length_cons, List.length_nil, List.drop_zero, List.drop_succ_cons, List.take_succ_cons, List.take_zero, List.cons_append, List.nil_append, Option.some.injEq, exists_eq_left', top, List.cons.injEq, ↓reduceIte, Nat.reduceEqDiff, Nat.reduceLeDiff, Nat.reduceAdd, Nat.reduceSub, Nat.reduceMul, reduceCtorEq, Nat.succ_ne_zero, imp_T, imp_F, List.getElem?_nil, Int.reduceEq, Int.reduceLT, Int.reduceLE, Int.reduceNeg, Int.reduceAdd, Int.reduceSub, decide_true, decide_false, eq_self, not_true_eq_false, not_false_eq_true, ite_true, ite_false]
  clear aS4 aI4 cS4 cI4 bS4 bI4 bA4 dS4 dI4 dA4 kvc4 kic4 kvd4 kid4 oa4 ob4 gS4 gI4 kv4 ki4
  -- round 5
  refine callK_intro (leave_api ht vi fs g5 ki5) ?_
  rintro x a5 ⟨hT5, ha5⟩
  have na5 := ha5.next
  obtain ⟨t5, u5, e5, rfl, oneu5, clu5, gdu5⟩ := told_shape hT5
  have aS5 : a5.get (pa h.next) = .ofL [.int .i64 ht, v] 0 false := by rw [ha5.get _ (old_lt (by omega)), gS5]
  have aI5 : a5.get (pa i0.next) = .ofL [.int .i64 ht, vi] 0 false := by rw [ha5.get _ (old_lt (by omega)), gI5]
  have aA5 : a5.get (pa a1.next) = .ofL [.int .i64 t4, u4] 0 false := by rw [ha5.get _ (old_lt (by omega)), gA5]
  have aB5 : a5.get (pa b1.next) = .ofL [.int .i64 t4, w4] 0 false := by rw [ha5.get _ (old_lt (by omega)), gB5]
  simp +contextual only [aS5, aI5, aA5, aB5, q1, q2, q3, q4, q5, q6, q7, q8, q9, q10, q11, q12, oneu5, clu5, gdu5, ↓wpA1, ↓wpA2, ↓wpA3, wpB1, wpB2, wpB3, wpB4, wpB5, wpB6, repeatV, RX.evs, spl, over, ones, Ex.ends, evR, oneOf, Option.isSome_some, Option.getD_some, if_true, if_false, true_and, and_true, List.getElem?_cons_zero, List.getElem?_cons_succ, List.length_cons, List.length_nil, List.drop_zero, List.drop_succ_cons, List.take_succ_cons, List.take_zero, List.cons_append, List.nil_append, Option.some.injEq, exists_eq_left', top, List.cons.injEq, ↓reduceIte, Nat.reduceEqDiff, Nat.reduceLeDiff, Nat.reduceAdd, Nat.reduceSub, Nat.reduceMul, reduceCtorEq, Nat.succ_ne_zero, imp_T, imp_F, List.getElem?_nil, Int.reduceEq, Int.reduceLT, Int.reduceLE, Int.reduceNeg, Int.reduceAdd, Int.reduceSub, decide_true, decide_false, eq_self, not_true_eq_false, not_false_eq_true, ite_true, ite_false]
  generalize ec5 : a5.set (pa a1.next) (.ofL [.int .i64 t5, u5] 0 false) = c5
  have hc5 : Mod (fun b => b = pa a1.next) a5 c5 := by rw [← ec5]; exact (Mod.refl (fun b => b = pa a1.next) a5).set (fun _ => rfl) _
  have nc5 : c5.next = a5.next := by rw [← ec5]; rfl
  have cA5 : c5.get (pa a1.next) = .ofL [.int .i64 t5, u5] 0 false := by rw [← ec5, get_set, if_pos rfl]
  have cB5 : c5.get (pa b1.next) = .ofL [.int .i64 t4, w4] 0 false := by rw [hc5.get _ (old_lt (by omega)) (fun q => by rw [pa_eq] at q; omega), aB5]
  clear ec5
  have cS5 : c5.get (pa h.next) = .ofL [.int .i64 ht, v] 0 false := by rw [hc5.get _ (old_lt (by omega)) (fun q => by rw [pa_eq] at q; omega), aS5]
  have cI5 : c5.get (pa i0.next) = .ofL [.int .i64 ht, vi] 0 false := by rw [hc5.get _ (old_lt (by omega)) (fun q => by rw [pa_eq] at q; omega), aI5]
  have kvc5 : SlV c5 4 v fs.length (encs fs) := (kv5.ext ha5).mod hc5 fun b hb q => nv a1.next (by omega) (q ▸ hb)
  have kic5 : SlV c5 4 vi fs.length (encs fs) := (ki5.ext ha5).mod hc5 fun b hb q => ni a1.next (by omega) (q ▸ hb)
  refine callK_intro (ref_leave ht v fs c5 kvc5) ?_
  rintro x b5 ⟨hR5, hb5⟩
  have nb5 := hb5.next
  obtain ⟨gs5, w5, rfl, o1, o2, lg5⟩ := told_both hT5 hR5 (by have := leave_len ht fs; omega)
  clear hT5 hR5
  obtain ⟨onew5, clw5, gdw5⟩ := o2.v.one
  have bS5 : b5.get (pa h.next) = .ofL [.int .i64 ht, v] 0 false := by rw [hb5.get _ (old_lt (by omega)), cS5]
  have bI5 : b5.get (pa i0.next) = .ofL [.int .i64 ht, vi] 0 false := by rw [hb5.get _ (old_lt (by omega)), cI5]
  have bA5 : b5.get (pa a1.next) = .ofL [.int .i64 t5, u5] 0 false := by rw [hb5.get _ (old_lt (by omega)), cA5]
  have bB5 : b5.get (pa b1.next) = .ofL [.int .i64 t4, w4] 0 false := by rw [hb5.get _ (old_lt (by omega)), cB5]
  simp +contextual only [bS5, bI5, bA5, bB5, q1, q2, q3, q4, q5, q6, q7, q8, q9, q10, q11, q12, onew5, clw5, gdw5, ↓wpA1, ↓wpA2, ↓wpA3, wpB1, wpB2, wpB3, wpB4, wpB5, wpB6, repeatV, RX.evs, spl, over, ones, Ex.ends, evR, oneOf, Option.isSome_some, Option.getD_some, if_true, if_false, true_and, and_true, List.getElem?_cons_zero, List.getElem?_cons_succ, List.length_cons, List.length_nil, List.drop_zero, List.drop_succ_cons, List.take_succ_cons, List.take_zero, List.cons_append, List.nil_append, Option.some.injEq, exists_eq_left', top, List.cons.injEq, ↓reduceIte, Nat.reduceEqDiff, Nat.reduceLeDiff, Nat.reduceAdd, Nat.reduceSub, Nat.reduceMul, reduceCtorEq, Nat.succ_ne_zero, imp_T, imp_F, List.getElem?_nil, Int.reduceEq, Int.reduceLT, Int.reduceLE, Int.reduceNeg, Int.reduceAdd, Int.reduceSub, decide_true, decide_false, eq_self, not_true_eq_false, not_false_eq_true, ite_true, ite_false]
  generalize ed5 : b5.set (pa b1.next) (.ofL [.int .i64 t5, w5] 0 false) = d5
  have hd5 : Mod (fun b => b = pa b1.next) b5 d5 := by rw [← ed5]; exact (Mod.refl (fun b => b = pa b1.next) b5).set (fun _ => rfl) _
  have nd5 : d5.next = b5.next := by rw [← ed5]; rfl
  have dB5 : d5.get (pa b1.next) = .ofL [.int .i64 t5, w5] 0 false := by rw [← ed5, get_set, if_pos rfl]
  clear ed5
  have dS5 : d5.get (pa h.next) = .ofL [.int .i64 ht, v] 0 false := by rw [hd5.get _ (old_lt (by omega)) (fun q => by rw [pa_eq] at q; omega), bS5]
  have dI5 : d5.get (pa i0.next) = .ofL [.int .i64 ht, vi] 0 false := by rw [hd5.get _ (old_lt (by omega)) (fun q => by rw [pa_eq] at q; omega), bI5]
  have dA5 : d5.get (pa a1.next) = .ofL [.int .i64 t5, u5] 0 false := by rw [hd5.get _ (old_lt (by omega)) (fun q => by rw [pa_eq] at q; omega), bA5]
  have ub5 : ∀ b, u5.blk b → g5.next ≤ unPa b ∧ unPa b < a5.next := fun b hb => ⟨o1.base hb, o1.v.old hb⟩
  have wb5 : ∀ b, w5.blk b → c5.next ≤ unPa b ∧ unPa b < b5.next := fun b hb => ⟨o2.base hb, o2.v.old hb⟩
  have oa5 : SlO g5.next d5 4 u5 gs5.length (encs gs5) := ((o1.mod hc5 fun b hb q => by have := ub5 b hb; rw [q, unPa_pa] at this; omega).ext hb5).mod hd5 fun b hb q => by have := ub5 b hb; rw [q, unPa_pa] at this; omega
  have ob5 : SlV d5 4 w5 gs5.length (encs gs5) := o2.v.mod hd5 fun b hb q => by have := wb5 b hb; rw [q, unPa_pa] at this; omega
  have kvd5 : SlV d5 4 v fs.length (encs fs) := (kvc5.ext hb5).mod hd5 fun b hb q => nv b1.next (by omega) (q ▸ hb)
  have kid5 : SlV d5 4 vi fs.length (encs fs) := (kic5.ext hb5).mod hd5 fun b hb q => ni b1.next (by omega) (q ▸ hb)
  clear o1 o2
  refine callK_intro (told_ctr t5 t5 ht ht e5 e5 u5 w5 vi v gs5 gs5 fs g5.next _ oa5 ob5 lg5 kid5 kvd5 (by omega) (fun b hb q => by have := ub5 b hb; have := hib b q; omega) (fun b hb q => by have := ub5 b hb; have := hvb b q; omega) rfl rfl rfl rfl) ?_
  rintro x g6 ⟨rfl, hm5⟩
  have nm5 := hm5.next
  have nu5 : ∀ i, i < g5.next → ¬ u5.blk (pa i) := fun i hi q => by have := ub5 _ q; rw [unPa_pa] at this; omega
  have gS6 : g6.get (pa h.next) = .ofL [.int .i64 ht, v] 0 false := by rw [hm5.get _ (old_lt (by omega)) (nu5 _ (by omega)), dS5]
  have gI6 : g6.get (pa i0.next) = .ofL [.int .i64 ht, vi] 0 false := by rw [hm5.get _ (old_lt (by omega)) (nu5 _ (by omega)), dI5]
  have gA6 : g6.get (pa a1.next) = .ofL [.int .i64 t5, u5] 0 false := by rw [hm5.get _ (old_lt (by omega)) (nu5 _ (by omega)), dA5]
  have gB6 : g6.get (pa b1.next) = .ofL [.int .i64 t5, w5] 0 false := by rw [hm5.get _ (old_lt (by omega)) (nu5 _ (by omega)), dB5]
  have kv6 : SlV g6 4 v fs.length (encs fs) := kvd5.mod hm5 fun b hb q => by have := ub5 b q; have := hvb b hb; omega
  have ki6 : SlV g6 4 vi fs.length (encs fs) := kid5.mod hm5 fun b hb q => by have := ub5 b q; have := hib b hb; omega
  simp +contextual only [gS6, gI6, gA6, gB6, q1, q2, q3, q4, q5, q6, q7, q8, q9, q10, q11, q12, ↓wpA1, ↓wpA2, ↓wpA3, wpB1, wpB2, wpB3, wpB4, wpB5, wpB6, repeatV, RX.evs, spl, over, ones, Ex.ends, evR, oneOf, Option.isSome_some, Option.getD_some, if_true, if_false, true_and, and_true, List.getElem?_cons_zero, List.getElem?_cons_succ, List.length_cons, List.length_nil, List.drop_zero, List.drop_succ_cons, List.take_succ_cons, List.take_zero, List.cons_append, List.nil_append, Option.some.injEq, exists_eq_left', top, List.cons.injEq, ↓reduceIte, Nat.reduceEqDiff, Nat.reduceLeDiff, Nat.reduceAdd, Nat.reduceSub, Nat.reduceMul, reduceCtorEq, Nat.succ_ne_zero, imp_T, imp_F, List.getElem?_nil, Int.reduceEq, Int.reduceLT, Int.reduceLE, Int.reduceNeg, Int.reduceAdd, Int.reduceSub, decide_true, decide_false, eq_self, not_true_eq_false, not_false_eq_true, ite_true, ite_false]
  clear aS5 aI5 cS5 cI5 bS5 bI5 bA5 dS5 dI5 dA5 kvc5 kic5 kvd5 kid5 oa5 ob5 gS5 gI5 kv5 ki5
  -- the labels
  refine callK_intro (label_api n ht vi fs g6 ki6) ?_
  rintro x l1 ⟨rfl, hl1⟩
  have nl1 := hl1.next
  have lS : l1.get (pa h.next) = .ofL [.int .i64 ht, v] 0 false := by rw [hl1.get _ (old_lt (by omega)), gS6]
  have lI : l1.get (pa i0.next) = .ofL [.int .i64 ht, vi] 0 false := by rw [hl1.get _ (old_lt (by omega)), gI6]
  have lA : l1.get (pa a1.next) = .ofL [.int .i64 t5, u5] 0 false := by rw [hl1.get _ (old_lt (by omega)), gA6]
  have lB : l1.get (pa b1.next) = .ofL [.int .i64 t5, w5] 0 false := by rw [hl1.get _ (old_lt (by omega)), gB6]
  simp +contextual only [lS, lI, lA, lB, q1, q2, q3, q4, q5, q6, q7, q8, q9, q10, q11, q12, ↓wpA1, ↓wpA2, ↓wpA3, wpB1, wpB2, wpB3, wpB4, wpB5, wpB6, repeatV, RX.evs, spl, over, ones, Ex.ends, evR, oneOf, Option.isSome_some, Option.getD_some, if_true, if_false, true_and, and_true, List.getElem?_cons_zero, List.getElem?_cons_succ, List.length_cons, List.length_nil, List.drop_zero, List.drop_succ_cons, List.take_succ_cons, List.take_zero, List.cons_append, List.nil_append, Option.some.injEq, exists_eq_left', top, List.cons.injEq, ↓reduceIte, Nat.reduceEqDiff, Nat.reduceLeDiff, Nat.reduceAdd, Nat.reduceSub, Nat.reduceMul, reduceCtorEq, Nat.succ_ne_zero, imp_T, imp_F, List.getElem?_nil, Int.reduceEq, Int.reduceLT, Int.reduceLE, Int.reduceNeg, Int.reduceAdd, Int.reduceSub, decide_true, decide_false, eq_self, not_true_eq_false, not_false_eq_true, ite_true, ite_false]
  refine callK_intro (ref_label n ht v fs l1 (kv6.ext hl1)) ?_
  rintro x l2 ⟨rfl, hl2⟩
  have nl2 := hl2.next
  have mS : l2.get (pa h.next) = .ofL [.int .i64 ht, v] 0 false := by rw [hl2.get _ (old_lt (by omega)), lS]
  have mI : l2.get (pa i0.next) = .ofL [.int .i64 ht, vi] 0 false := by rw [hl2.get _ (old_lt (by omega)), lI]
  have mA : l2.get (pa a1.next) = .ofL [.int .i64 t5, u5] 0 false := by rw [hl2.get _ (old_lt (by omega)), lA]
  have mB : l2.get (pa b1.next) = .ofL [.int .i64 t5, w5] 0 false := by rw [hl2.get _ (old_lt (by omega)), lB]
  have kvl := (kv6.ext hl1).ext hl2
  have kil := (ki6.ext hl1).ext hl2
  simp +contextual only [mS, mI, mA, mB, q1, q2, q3, q4, q5, q6, q7, q8, q9, q10, q11, q12, ↓wpA1, ↓wpA2, ↓wpA3, wpB1, wpB2, wpB3, wpB4, wpB5, wpB6, repeatV, RX.evs, spl, over, ones, Ex.ends, evR, oneOf, Option.isSome_some, Option.getD_some, if_true, if_false, true_and, and_true, List.getElem?_cons_zero, List.getElem?_cons_succ, List.length_cons, List.length_nil, List.drop_zero, List.drop_succ_cons, List.take_succ_cons, List.take_zero, List.cons_append, List.nil_append, Option.some.injEq, exists_eq_left', top, List.cons.injEq, ↓reduceIte, Nat.reduceEqDiff, Nat.reduceLeDiff, Nat.reduceAdd, Nat.reduceSub, Nat.reduceMul, reduceCtorEq, Nat.succ_ne_zero, imp_T, imp_F, List.getElem?_nil, Int.reduceEq, Int.reduceLT, Int.reduceLE, Int.reduceNeg, Int.reduceAdd, Int.reduceSub, decide_true, decide_false, eq_self, not_true_eq_false, not_false_eq_true, ite_true, ite_false]
  -- a new stand
  refine callK_intro (new_api res l2) ?_
  rintro x a6 ⟨hN, ha6⟩
  have na6 := ha6.next
  obtain ⟨u6, e6, rfl, oneu6, clu6, gdu6⟩ := new_shape hN
  have aS6 : a6.get (pa h.next) = .ofL [.int .i64 ht, v] 0 false := by rw [ha6.get _ (old_lt (by omega)), mS]
  have aI6 : a6.get (pa i0.next) = .ofL [.int .i64 ht, vi] 0 false := by rw [ha6.get _ (old_lt (by omega)), mI]
  have aA6 : a6.get (pa a1.next) = .ofL [.int .i64 t5, u5] 0 false := by rw [ha6.get _ (old_lt (by omega)), mA]
  have aB6 : a6.get (pa b1.next) = .ofL [.int .i64 t5, w5] 0 false := by rw [ha6.get _ (old_lt (by omega)), mB]
  simp +contextual only [aS6, aI6, aA6, aB6, q1, q2, q3, q4, q5, q6, q7, q8, q9, q10, q11, q12, oneu6, clu6, gdu6, ↓wpA1, ↓wpA2, ↓wpA3, wpB1, wpB2, wpB3, wpB4, wpB5, wpB6, repeatV, RX.evs, spl, over, ones, Ex.ends, evR, oneOf, Option.isSome_some, Option.getD_some, if_true, if_false, true_and, and_true, List.getElem?_cons_zero, List.getElem?_cons_succ, List.length_cons, List.length_nil, List.drop_zero, List.drop_succ_cons, List.take_succ_cons, List.take_zero, List.cons_append, List.nil_append, Option.some.injEq, exists_eq_left', top, List.cons.injEq, ↓reduceIte, Nat.reduceEqDiff, Nat.reduceLeDiff, Nat.reduceAdd, Nat.reduceSub, Nat.reduceMul, reduceCtorEq, Nat.succ_ne_zero, imp_T, imp_F, List.getElem?_nil, Int.reduceEq, Int.reduceLT, Int.reduceLE, Int.reduceNeg, Int.reduceAdd, Int.reduceSub, decide_true, decide_false, eq_self, not_true_eq_false, not_false_eq_true, ite_true, ite_false]
  generalize ec6 : a6.set (pa a1.next) (.ofL [.int .i64 0, u6] 0 false) = c6
  have hc6 : Mod (fun b => b = pa a1.next) a6 c6 := by rw [← ec6]; exact (Mod.refl (fun b => b = pa a1.next) a6).set (fun _ => rfl) _
  have nc6 : c6.next = a6.next := by rw [← ec6]; rfl
  have cA6 : c6.get (pa a1.next) = .ofL [.int .i64 0, u6] 0 false := by rw [← ec6, get_set, if_pos rfl]
  have cB6 : c6.get (pa b1.next) = .ofL [.int .i64 t5, w5] 0 false := by rw [hc6.get _ (old_lt (by omega)) (fun q => by rw [pa_eq] at q; omega), aB6]
  clear ec6
  have cS6 : c6.get (pa h.next) = .ofL [.int .i64 ht, v] 0 false := by rw [hc6.get _ (old_lt (by omega)) (fun q => by rw [pa_eq] at q; omega), aS6]
  have cI6 : c6.get (pa i0.next) = .ofL [.int .i64 ht, vi] 0 false := by rw [hc6.get _ (old_lt (by omega)) (fun q => by rw [pa_eq] at q; omega), aI6]
  have kvc6 : SlV c6 4 v fs.length (encs fs) := (kvl.ext ha6).mod hc6 fun b hb q => nv a1.next (by omega) (q ▸ hb)
  have kic6 : SlV c6 4 vi fs.length (encs fs) := (kil.ext ha6).mod hc6 fun b hb q => ni a1.next (by omega) (q ▸ hb)
  refine callK_intro (ref_new res c6) ?_
  rintro x b6 ⟨hR, hb6⟩
  have nb6 := hb6.next
  obtain ⟨gs6, w6, rfl, o1, o2, lg6⟩ := new_both hN hR
  obtain ⟨onew6, clw6, gdw6⟩ := o2.v.one
  have bS6 : b6.get (pa h.next) = .ofL [.int .i64 ht, v] 0 false := by rw [hb6.get _ (old_lt (by omega)), cS6]
  have bI6 : b6.get (pa i0.next) = .ofL [.int .i64 ht, vi] 0 false := by rw [hb6.get _ (old_lt (by omega)), cI6]
  have bA6 : b6.get (pa a1.next) = .ofL [.int .i64 0, u6] 0 false := by rw [hb6.get _ (old_lt (by omega)), cA6]
  have bB6 : b6.get (pa b1.next) = .ofL [.int .i64 t5, w5] 0 false := by rw [hb6.get _ (old_lt (by omega)), cB6]
  simp +contextual only [bS6, bI6, bA6, bB6, q1, q2, q3, q4, q5, q6, q7, q8, q9, q10, q11, q12, onew6, clw6, gdw6, ↓wpA1, ↓wpA2, ↓wpA3, wpB1, wpB2, wpB3, wpB4, wpB5, wpB6, repeatV, RX.evs, spl, over, ones, Ex.ends, evR, oneOf, Option.isSome_some, Option.getD_some, if_true, if_false, true_and, and_true, List.getElem?_cons_zero, List.getElem?_cons_succ, List.length_cons, List.length_nil, List.drop_zero, List.drop_succ_cons, List.take_succ_cons, List.take_zero, List.cons_append, List.nil_append, Option.some.injEq, exists_eq_left', top, List.cons.injEq, ↓reduceIte, Nat.reduceEqDiff, Nat.reduceLeDiff, Nat.reduceAdd, Nat.reduceSub, Nat.reduceMul, reduceCtorEq, Nat.succ_ne_zero, imp_T, imp_F, List.getElem?_nil, Int.reduceEq, Int.reduceLT, Int.reduceLE, Int.reduceNeg, Int.reduceAdd, Int.reduceSub, decide_true, decide_false, eq_self, not_true_eq_false, not_false_eq_true, ite_true, ite_false]
  generalize ed6 : b6.set (pa b1.next) (.ofL [.int .i64 0, w6] 0 false) = d6
  have hd6 : Mod (fun b => b = pa b1.next) b6 d6 := by rw [← ed6]; exact (Mod.refl (fun b => b = pa b1.next) b6).set (fun _ => rfl) _
  have nd6 : d6.next = b6.next := by rw [← ed6]; rfl
  have dB6 : d6.get (pa b1.next) = .ofL [.int .i64 0, w6] 0 false := by rw [← ed6, get_set, if_pos rfl]
  clear ed6
  have dS6 : d6.get (pa h.next) = .ofL [.int .i64 ht, v] 0 false := by rw [hd6.get _ (old_lt (by omega)) (fun q => by rw [pa_eq] at q; omega), bS6]
  have dI6 : d6.get (pa i0.next) = .ofL [.int .i64 ht, vi] 0 false := by rw [hd6.get _ (old_lt (by omega)) (fun q => by rw [pa_eq] at q; omega), bI6]
  have dA6 : d6.get (pa a1.next) = .ofL [.int .i64 0, u6] 0 false := by rw [hd6.get _ (old_lt (by omega)) (fun q => by rw [pa_eq] at q; omega), bA6]
  have ub6 : ∀ b, u6.blk b → l2.next ≤ unPa b ∧ unPa b < a6.next := fun b hb => ⟨o1.base hb, o1.v.old hb⟩
  have wb6 : ∀ b, w6.blk b → c6.next ≤ unPa b ∧ unPa b < b6.next := fun b hb => ⟨o2.base hb, o2.v.old hb⟩
  have oa6 : SlO l2.next d6 4 u6 gs6.length (encs gs6) := ((o1.mod hc6 fun b hb q => by have := ub6 b hb; rw [q, unPa_pa] at this; omega).ext hb6).mod hd6 fun b hb q => by have := ub6 b hb; rw [q, unPa_pa] at this; omega
  have ob6 : SlV d6 4 w6 gs6.length (encs gs6) := o2.v.mod hd6 fun b hb q => by have := wb6 b hb; rw [q, unPa_pa] at this; omega
  have kvd6 : SlV d6 4 v fs.length (encs fs) := (kvc6.ext hb6).mod hd6 fun b hb q => nv b1.next (by omega) (q ▸ hb)
  have kid6 : SlV d6 4 vi fs.length (encs fs) := (kic6.ext hb6).mod hd6 fun b hb q => ni b1.next (by omega) (q ▸ hb)
  refine callK_intro (told_ctr 0 0 ht ht e6 e6 u6 w6 vi v gs6 gs6 fs l2.next _ oa6 ob6 lg6 kid6 kvd6 (by omega) (fun b hb q => by have := ub6 b hb; have := hib b q; omega) (fun b hb q => by have := ub6 b hb; have := hvb b q; omega) rfl rfl rfl rfl) ?_
  rintro x g7 ⟨rfl, hm6⟩
  have nm6 := hm6.next
  have nu6 : ∀ i, i < l2.next → ¬ u6.blk (pa i) := fun i hi q => by have := ub6 _ q; rw [unPa_pa] at this; omega
  have gS7 : g7.get (pa h.next) = .ofL [.int .i64 ht, v] 0 false := by rw [hm6.get _ (old_lt (by omega)) (nu6 _ (by omega)), dS6]
  have gI7 : g7.get (pa i0.next) = .ofL [.int .i64 ht, vi] 0 false := by rw [hm6.get _ (old_lt (by omega)) (nu6 _ (by omega)), dI6]
  have gA7 : g7.get (pa a1.next) = .ofL [.int .i64 0, u6] 0 false := by rw [hm6.get _ (old_lt (by omega)) (nu6 _ (by omega)), dA6]
  have gB7 : g7.get (pa b1.next) = .ofL [.int .i64 0, w6] 0 false := by rw [hm6.get _ (old_lt (by omega)) (nu6 _ (by omega)), dB6]
  have kv7 : SlV g7 4 v fs.length (encs fs) := kvd6.mod hm6 fun b hb q => by have := ub6 b q; have := hvb b hb; omega
  have ki7 : SlV g7 4 vi fs.length (encs fs) := kid6.mod hm6 fun b hb q => by have := ub6 b q; have := hib b hb; omega
  simp +contextual only [gS7, gI7, gA7, gB7, q1, q2, q3, q4, q5, q6, q7, q8, q9, q10, q11, q12, ↓wpA1, ↓wpA2, ↓wpA3, wpB1, wpB2, wpB3, wpB4, wpB5, wpB6, repeatV, RX.evs, spl, over, ones, Ex.ends, evR, oneOf, Option.isSome_some, Option.getD_some, if_true, if_false, true_and, and_true, List.getElem?_cons_zero, List.getElem?_cons_succ, List.length_cons, List.length_nil, List.drop_zero, List.drop_succ_cons, List.take_succ_cons, List.take_zero, List.cons_append, List.nil_append, Option.some.injEq, exists_eq_left', top, List.cons.injEq, ↓reduceIte, Nat.reduceEqDiff, Nat.reduceLeDiff, Nat.reduceAdd, Nat.reduceSub, Nat.reduceMul, reduceCtorEq, Nat.succ_ne_zero, imp_T, imp_F, List.getElem?_nil, Int.reduceEq, Int.reduceLT, Int.reduceLE, Int.reduceNeg, Int.reduceAdd, Int.reduceSub, decide_true, decide_false, eq_self, not_true_eq_false, not_false_eq_true, ite_true, ite_false]
  refine callK_intro (check_ctr ht vi fs g7 ki7) ?_
  rintro x k1 ⟨rfl, hk1⟩
  have nk1 := hk1.next
  have kS : k1.get (pa h.next) = .ofL [.int .i64 ht, v] 0 false := by rw [hk1.get _ (old_lt (by omega)), gS7]
  have kI : k1.get (pa i0.next) = .ofL [.int .i64 ht, vi] 0 false := by rw [hk1.get _ (old_lt (by omega)), gI7]
  simp +contextual only [kS, kI, ↓wpA1, ↓wpA2, ↓wpA3, wpB1, wpB2, wpB3, wpB4, wpB5, wpB6, repeatV, RX.evs, spl, over, ones, Ex.ends, evR, oneOf, Option.isSome_some, Option.getD_some, if_true, if_false, true_and, and_true, List.getElem?_cons_zero, List.getElem?_cons_succ, List.length_cons, List.length_nil, List.drop_zero, List.drop_succ_cons, List.take_succ_cons, List.take_zero, List.cons_append, List.nil_append, Option.some.injEq, exists_eq_left', top, List.cons.injEq, ↓reduceIte, Nat.reduceEqDiff, Nat.reduceLeDiff, Nat.reduceAdd, Nat.reduceSub, Nat.reduceMul, reduceCtorEq, Nat.succ_ne_zero, imp_T, imp_F, List.getElem?_nil, Int.reduceEq, Int.reduceLT, Int.reduceLE, Int.reduceNeg, Int.reduceAdd, Int.reduceSub, decide_true, decide_false, eq_self, not_true_eq_false, not_false_eq_true, ite_true, ite_false]
  refine callK_intro (refcheck_ctr ht v fs k1 (kv7.ext hk1)) ?_
  rintro x k2 ⟨rfl, hk2⟩
  have kS2 : k2.get (pa h.next) = .ofL [.int .i64 ht, v] 0 false := by rw [hk2.get _ (old_lt (by omega)), kS]
  have kI2 : k2.get (pa i0.next) = .ofL [.int .i64 ht, vi] 0 false := by rw [hk2.get _ (old_lt (by omega)), kI]
  simp +contextual only [kS2, kI2, kS, kI, ↓wpA1, ↓wpA2, ↓wpA3, wpB1, wpB2, wpB3, wpB4, wpB5, wpB6, repeatV, RX.evs, spl, over, ones, Ex.ends, evR, oneOf, Option.isSome_some, Option.getD_some, if_true, if_false, true_and, and_true, List.getElem?_cons_zero, List.getElem?_cons_succ, List.length_cons, List.length_nil, List.drop_zero, List.drop_succ_cons, List.take_succ_cons, List.take_zero, List.cons_append, List.nil_append, Option.some.injEq, exists_eq_left', top, List.cons.injEq, ↓reduceIte, Nat.reduceEqDiff, Nat.reduceLeDiff, Nat.reduceAdd, Nat.reduceSub, Nat.reduceMul, reduceCtorEq, Nat.succ_ne_zero, imp_T, imp_F, List.getElem?_nil, Int.reduceEq, Int.reduceLT, Int.reduceLE, Int.reduceNeg, Int.reduceAdd, Int.reduceSub, decide_true, decide_false, eq_self, not_true_eq_false, not_false_eq_true, ite_true, ite_false]
  refine callK_pure (awake_calls _) ?_
  simp +contextual only [kS2, kI2, kS, kI, dS6, dI6, dA6, dB6, gS7, gI7, gA7, gB7, ↓wpA1, ↓wpA2, ↓wpA3, wpB1, wpB2, wpB3, wpB4, wpB5, wpB6, repeatV, RX.evs, spl, over, ones, Ex.ends, evR, oneOf, Option.isSome_some, Option.getD_some, if_true, if_false, true_and, and_true, List.getElem?_cons_zero, List.getElem?_cons_succ, List.length_cons, List.length_nil, List.drop_zero, List.drop_succ_cons, List.take_succ_cons, List.take_zero, List.cons_append, List.nil_append, Option.some.injEq, exists_eq_left', top, List.cons.injEq, ↓reduceIte, Nat.reduceEqDiff, Nat.reduceLeDiff, Nat.reduceAdd, Nat.reduceSub, Nat.reduceMul, reduceCtorEq, Nat.succ_ne_zero, imp_T, imp_F, List.getElem?_nil, Int.reduceEq, Int.reduceLT, Int.reduceLE, Int.reduceNeg, Int.reduceAdd, Int.reduceSub, decide_true, decide_false, eq_self, not_true_eq_false, not_false_eq_true, ite_true, ite_false]

/-- the law StackTells -/
theorem stackTells_all (n op res : Int) (x : V) (ht : Int) (v : V) (len : Nat) (h : Heap) (hs : Std h x ht v len) : Ctr Try.prog 4 [x, .int .i64 n, .int .i64 op, .int .i64 res] h fun y _ => y = .bool true := by
  obtain ⟨rfl, one0, cl0, gd0, hl, hfs⟩ := hs
  by_cases hlen : len ≤ 1100
  · obtain ⟨fs, rfl, hv⟩ := hfs (by omega)
    exact stackTells n op res ht v fs h hv hlen
  · have hi : (1100 : Int) < (len : Int) := by omega
    refine c4_ctr rfl (wpK_of ?_)
    unfold c4
    simp +contextual only [hi, hl, one0, cl0, gd0, ↓wpA1, ↓wpA2, ↓wpA3, wpB1, wpB2, wpB3, wpB4, wpB5, wpB6, repeatV, RX.evs, spl, over, ones, Ex.ends, evR, oneOf, Option.isSome_some, Option.getD_some, if_true, if_false, true_and, and_true, List.getElem?_cons_zero, List.getElem?_cons_succ, List.length_cons, List.length_nil, List.drop_zero, List.drop_succ_cons, List.take_succ_cons, List.take_zero, List.cons_append, List.nil_append, Option.some.injEq, exists_eq_left', top, List.cons.injEq, ↓reduceIte, Nat.reduceEqDiff, Nat.reduceLeDiff, Nat.reduceAdd, Nat.reduceSub, Nat.reduceMul, reduceCtorEq, Nat.succ_ne_zero, imp_T, imp_F, List.getElem?_nil, Int.reduceEq, Int.reduceLT, Int.reduceLE, Int.reduceNeg, Int.reduceAdd, Int.reduceSub, decide_true, decide_false, eq_self, not_true_eq_false, not_false_eq_true, ite_true, ite_false]
end Go.Proofs.Ytkjifhoiiciblaa
