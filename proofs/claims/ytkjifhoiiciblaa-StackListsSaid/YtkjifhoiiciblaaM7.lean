/- The chapter's functions, walked by the abstract machine: plain lemmas, no condition. -/
import Derived.Test.YtkjifhoiiciblaaM6

namespace Go.Proofs.Ytkjifhoiiciblaa
open Go Am
set_option linter.unusedSimpArgs false
set_option linter.unusedVariables false

theorem neq_frames0 : ∀ (a b c : Int) (d : Bool) (a' b' c' : Int) (d' : Bool), (BK.other .neq 42).run Try.prog (.agg [.int .i64 a, .int .i64 b, .int .i64 c, .bool d]) (.agg [.int .i64 a', .int .i64 b', .int .i64 c', .bool d']) =
    (match (cond (Int.eqB a a') (cond (Int.eqB b b') (cond (Int.eqB c c') (cond (d == d') (some true) (some false)) (some false)) (some false)) (some false)) with
      | some q => some (.bool (!q))
      | none => none) := by
  intro a b c d a2 b2 c2 d2
  kernel_rfl

def Fm.eqB (f g : Fm) : Bool := decide (f.op = g.op) && (decide (f.base = g.base) && (decide (f.res = g.res) && (f.dead == g.dead)))
theorem neq_frames (f g : Fm) : (BK.other .neq 42).run Try.prog (.agg [.int .i64 f.op, .int .i64 f.base, .int .i64 f.res, .bool f.dead]) (.agg [.int .i64 g.op, .int .i64 g.base, .int .i64 g.res, .bool g.dead]) = some (.bool (!f.eqB g)) := by
  rw [neq_frames0]
  unfold Fm.eqB
  rw [← eqB_dec, ← eqB_dec, ← eqB_dec]
  cases Int.eqB f.op g.op <;> cases Int.eqB f.base g.base <;> cases Int.eqB f.res g.res <;> cases f.dead <;> cases g.dead <;> rfl

theorem Fm.eqB_self (f : Fm) : f.eqB f = true := by simp [Fm.eqB]
theorem Fm.eqB_eq {f g : Fm} (h : f.eqB g = true) : f = g := by
  cases f; cases g
  simp [Fm.eqB] at h
  simp [h]
def eqFs : List Fm → List Fm → Bool
  | [], [] => true
  | f :: fs, g :: gs => f.eqB g && eqFs fs gs
  | _, _ => false
theorem eqFs_self : ∀ fs : List Fm, eqFs fs fs = true
  | [] => rfl
  | f :: fs => by simp [eqFs, Fm.eqB_self, eqFs_self fs]
theorem eqFs_eq : ∀ {fs gs : List Fm}, eqFs fs gs = true → fs = gs
  | [], [], _ => rfl
  | f :: fs, g :: gs, h => by
    simp only [eqFs, Bool.and_eq_true] at h
    rw [Fm.eqB_eq h.1, eqFs_eq h.2]
  | [], _ :: _, h => by simp [eqFs] at h
  | _ :: _, [], h => by simp [eqFs] at h
theorem eqFs_len : ∀ {fs gs : List Fm}, fs.length ≠ gs.length → eqFs fs gs = false := fun {fs gs} h => by
  rw [← Bool.not_eq_true]
  exact fun q => h (congrArg List.length (eqFs_eq q))
theorem eqFs_step (fs gs : List Fm) (i : Nat) (h1 : i < fs.length) (h2 : i < gs.length) : eqFs (fs.drop i) (gs.drop i) = (fs[i].eqB gs[i] && eqFs (fs.drop (i + 1)) (gs.drop (i + 1))) := by
  rw [List.drop_eq_getElem_cons h1, List.drop_eq_getElem_cons h2]
  rfl

theorem same_ctr (ha hb : Int) (va vb : V) (fa fb : List Fm) (h : Heap) (ka : SlV h 4 va fa.length (encs fa)) (kb : SlV h 4 vb fb.length (encs fb)) (hn : fa.length ≤ 100000) :
    Ctr Try.prog 11 [.agg [.int .i64 ha, va], .agg [.int .i64 hb, vb]] h fun x h' => x = .bool (decide (ha = hb) && eqFs fa fb) ∧ Ext h h' := by
  obtain ⟨one0, cl0, gd0⟩ := ka.one
  obtain ⟨one1, cl1, gd1⟩ := kb.one
  have la := ka.len
  have lb := kb.len
  refine c11_ctr rfl (wpK_of ?_)
  unfold c11
  simp +contextual only [one0, cl0, gd0, one1, cl1, gd1, la, lb, ↓wpA1, ↓wpA2, ↓wpA3, wpB1, wpB2, wpB3, wpB4, wpB5, wpB6, repeatV, RX.evs, spl, over, ones, Ex.ends, evR, oneOf, Option.isSome_some, Option.getD_some, if_true, if_false, true_and, and_true, List.getElem?_cons_zero, List.getElem?_cons_succ, List.length_cons, List.length_nil, List.drop_zero, List.drop_succ_cons, List.take_succ_cons, List.take_zero, List.cons_append, List.nil_append, Option.some.injEq, exists_eq_left', top, List.cons.injEq, ↓reduceIte, Nat.reduceEqDiff, Nat.reduceLeDiff, Nat.reduceAdd, Nat.reduceSub, Nat.reduceMul, reduceCtorEq, Nat.succ_ne_zero, imp_T, imp_F, List.getElem?_nil, Int.reduceEq, Int.reduceLT, Int.reduceLE, Int.reduceNeg, Int.reduceAdd, Int.reduceSub, decide_true, decide_false, eq_self, not_true_eq_false, not_false_eq_true, ite_true, ite_false]
  have hx : Ext h ((h.new (.ofL [.int .i64 ha, va] 0 false)).new (.ofL [.int .i64 hb, vb] 0 false)) := ((Ext.refl h).new _).new _
  refine ⟨fun hc => ⟨?_, hx⟩, fun hc => ?_⟩
  · by_cases e : ha = hb
    · have : fa.length ≠ fb.length := by simp [e] at hc; omega
      rw [eqFs_len this, Bool.and_false]
    · rw [decide_eq_false e, Bool.false_and]
  · have e1 : ha = hb := by simp at hc; exact hc.1
    have e2 : fa.length = fb.length := by simp at hc; omega
    have g0 : ((h.new (.ofL [.int .i64 ha, va] 0 false)).new (.ofL [.int .i64 hb, vb] 0 false)).get (pa h.next) = .ofL [.int .i64 ha, va] 0 false := by simp only [↓wpA1, ↓wpA2, ↓wpA3, wpB1, wpB2, wpB3, wpB4, wpB5, wpB6, repeatV, RX.evs, spl, over, ones, Ex.ends, evR, oneOf, Option.isSome_some, Option.getD_some, if_true, if_false, true_and, and_true, List.getElem?_cons_zero, List.getElem?_cons_succ, List.length_cons, List.length_nil, List.drop_zero, List.drop_succ_cons, List.take_succ_cons, List.take_zero, List.cons_append, List.nil_append, Option.some.injEq, exists_eq_left', top, List.cons.injEq, ↓reduceIte, Nat.reduceEqDiff, Nat.reduceLeDiff, Nat.reduceAdd, Nat.reduceSub, Nat.reduceMul, reduceCtorEq, Nat.succ_ne_zero, imp_T, imp_F, List.getElem?_nil, Int.reduceEq, Int.reduceLT, Int.reduceLE, Int.reduceNeg, Int.reduceAdd, Int.reduceSub, decide_true, decide_false, eq_self, not_true_eq_false, not_false_eq_true, ite_true, ite_false]
    have g1 : ((h.new (.ofL [.int .i64 ha, va] 0 false)).new (.ofL [.int .i64 hb, vb] 0 false)).get (pa (h.next + 1)) = .ofL [.int .i64 hb, vb] 0 false := by simp only [↓wpA1, ↓wpA2, ↓wpA3, wpB1, wpB2, wpB3, wpB4, wpB5, wpB6, repeatV, RX.evs, spl, over, ones, Ex.ends, evR, oneOf, Option.isSome_some, Option.getD_some, if_true, if_false, true_and, and_true, List.getElem?_cons_zero, List.getElem?_cons_succ, List.length_cons, List.length_nil, List.drop_zero, List.drop_succ_cons, List.take_succ_cons, List.take_zero, List.cons_append, List.nil_append, Option.some.injEq, exists_eq_left', top, List.cons.injEq, ↓reduceIte, Nat.reduceEqDiff, Nat.reduceLeDiff, Nat.reduceAdd, Nat.reduceSub, Nat.reduceMul, reduceCtorEq, Nat.succ_ne_zero, imp_T, imp_F, List.getElem?_nil, Int.reduceEq, Int.reduceLT, Int.reduceLE, Int.reduceNeg, Int.reduceAdd, Int.reduceSub, decide_true, decide_false, eq_self, not_true_eq_false, not_false_eq_true, ite_true, ite_false]
    rw [decide_eq_true e1, Bool.true_and]
    generalize eh : ((h.new (.ofL [.int .i64 ha, va] 0 false)).new (.ofL [.int .i64 hb, vb] 0 false)) = h2 at hx g0 g1 ⊢
    refine loopK_intro (fun r h' => ∃ (i : Nat), i ≤ fa.length ∧ r 5 = .int .i64 i ∧ r 2 = .ptr (pa h.next) 0 ∧ r 3 = .ptr (pa (h.next + 1)) 0 ∧ h' = h2 ∧ eqFs fa fb = eqFs (fa.drop i) (fb.drop i)) (fun r _ => fa.length - (r 5).toN) ?_ ?_
    · refine ⟨0, Nat.zero_le _, ?_⟩
      simp only [↓wpA1, ↓wpA2, ↓wpA3, wpB1, wpB2, wpB3, wpB4, wpB5, wpB6, repeatV, RX.evs, spl, over, ones, Ex.ends, evR, oneOf, Option.isSome_some, Option.getD_some, if_true, if_false, true_and, and_true, List.getElem?_cons_zero, List.getElem?_cons_succ, List.length_cons, List.length_nil, List.drop_zero, List.drop_succ_cons, List.take_succ_cons, List.take_zero, List.cons_append, List.nil_append, Option.some.injEq, exists_eq_left', top, List.cons.injEq, ↓reduceIte, Nat.reduceEqDiff, Nat.reduceLeDiff, Nat.reduceAdd, Nat.reduceSub, Nat.reduceMul, reduceCtorEq, Nat.succ_ne_zero, imp_T, imp_F, List.getElem?_nil, Int.reduceEq, Int.reduceLT, Int.reduceLE, Int.reduceNeg, Int.reduceAdd, Int.reduceSub, decide_true, decide_false, eq_self, not_true_eq_false, not_false_eq_true, ite_true, ite_false]
      rfl
    · rintro r h' ⟨i, hi, q5, q2, q3, rfl, hok⟩
      by_cases hlt : i < fa.length
      · obtain ⟨b, off, hia, hat⟩ := (ka.ext hx).ia (k := .i64) hlt
        have hld := hat.ldn (i := i * 4) (n := 4) (by rw [encs_length]; omega)
        rw [encs_at fa i hlt] at hld
        obtain ⟨b', off', hia', hat'⟩ := (kb.ext hx).ia (k := .i64) (show i < fb.length by omega)
        have hld' := hat'.ldn (i := i * 4) (n := 4) (by rw [encs_length]; omega)
        rw [encs_at fb i (by omega)] at hld'
        rw [eqFs_step fa fb i hlt (by omega)] at hok
        have hil : ((i : Int) < (fa.length : Int)) := by omega
        have hw : IntKind.i64.wrap ((i : Int) + 1) = ((i + 1 : Nat) : Int) := by rw [wrap_i64 (by omega) (by omega)]; rfl
        have nq := neq_frames fa[i] fb[i]
        unfold c11l1
        simp +contextual only [q5, q2, q3, g0, g1, la, lb, hia, hld, hia', hld', nq, hil, hw, Fm.enc, decide_true, ↓wpA1, ↓wpA2, ↓wpA3, wpB1, wpB2, wpB3, wpB4, wpB5, wpB6, repeatV, RX.evs, spl, over, ones, Ex.ends, evR, oneOf, Option.isSome_some, Option.getD_some, if_true, if_false, true_and, and_true, List.getElem?_cons_zero, List.getElem?_cons_succ, List.length_cons, List.length_nil, List.drop_zero, List.drop_succ_cons, List.take_succ_cons, List.take_zero, List.cons_append, List.nil_append, Option.some.injEq, exists_eq_left', top, List.cons.injEq, ↓reduceIte, Nat.reduceEqDiff, Nat.reduceLeDiff, Nat.reduceAdd, Nat.reduceSub, Nat.reduceMul, reduceCtorEq, Nat.succ_ne_zero, imp_T, imp_F, List.getElem?_nil, Int.reduceEq, Int.reduceLT, Int.reduceLE, Int.reduceNeg, Int.reduceAdd, Int.reduceSub, decide_true, decide_false, eq_self, not_true_eq_false, not_false_eq_true, ite_true, ite_false]
        refine ⟨fun hc => ?_, fun hc => ⟨⟨i + 1, by omega, rfl, ?_⟩, by omega⟩⟩
        · refine ⟨?_, hx⟩
          rw [hok, show fa[i].eqB fb[i] = false from by simpa using hc, Bool.false_and]
        · rw [hok, show fa[i].eqB fb[i] = true from by simpa using hc, Bool.true_and]
      · have hil : ¬ ((i : Int) < (fa.length : Int)) := by omega
        unfold c11l1
        simp +contextual only [q5, q2, q3, g0, g1, la, hil, decide_false, ↓wpA1, ↓wpA2, ↓wpA3, wpB1, wpB2, wpB3, wpB4, wpB5, wpB6, repeatV, RX.evs, spl, over, ones, Ex.ends, evR, oneOf, Option.isSome_some, Option.getD_some, if_true, if_false, true_and, and_true, List.getElem?_cons_zero, List.getElem?_cons_succ, List.length_cons, List.length_nil, List.drop_zero, List.drop_succ_cons, List.take_succ_cons, List.take_zero, List.cons_append, List.nil_append, Option.some.injEq, exists_eq_left', top, List.cons.injEq, ↓reduceIte, Nat.reduceEqDiff, Nat.reduceLeDiff, Nat.reduceAdd, Nat.reduceSub, Nat.reduceMul, reduceCtorEq, Nat.succ_ne_zero, imp_T, imp_F, List.getElem?_nil, Int.reduceEq, Int.reduceLT, Int.reduceLE, Int.reduceNeg, Int.reduceAdd, Int.reduceSub, decide_true, decide_false, eq_self, not_true_eq_false, not_false_eq_true, ite_true, ite_false]
        refine ⟨?_, hx⟩
        rw [hok, List.drop_eq_nil_of_le (by omega), List.drop_eq_nil_of_le (by omega)]
        rfl

/-- told: are two answers alike, and is the first new memory? -/
theorem told_ctr (ha hb hi hs e f : Int) (va vb vi vs : V) (fa fb fi : List Fm) (B : Nat) (h : Heap) (ka : SlO B h 4 va fa.length (encs fa)) (kb : SlV h 4 vb fb.length (encs fb)) (hn : fa.length ≤ 100000)
    (ki : SlV h 4 vi fi.length (encs fi)) (ks : SlV h 4 vs fi.length (encs fi)) (hni : fi.length ≤ 100000) (ni : ∀ b, va.blk b → ¬ vi.blk b) (ns : ∀ b, va.blk b → ¬ vs.blk b) (he : e = f) (hh : ha = hb) (hf : fa = fb) (hhi : hi = hs) :
    Ctr Try.prog 14 [.agg [.int .i64 ha, va], .int .i64 e, .agg [.int .i64 hb, vb], .int .i64 f, .agg [.int .i64 hi, vi], .agg [.int .i64 hs, vs]] h fun x h' => x = .bool true ∧ Mod va.blk h h' := by
  subst he hh hf hhi
  obtain ⟨one0, cl0, gd0⟩ := ka.v.one
  obtain ⟨one1, cl1, gd1⟩ := kb.one
  obtain ⟨one2, cl2, gd2⟩ := ki.one
  obtain ⟨one3, cl3, gd3⟩ := ks.one
  have la := ka.v.len
  refine c14_ctr rfl (wpK_of ?_)
  unfold c14
  simp +contextual only [one0, cl0, gd0, one1, cl1, gd1, one2, cl2, gd2, one3, cl3, gd3, la, ↓wpA1, ↓wpA2, ↓wpA3, wpB1, wpB2, wpB3, wpB4, wpB5, wpB6, repeatV, RX.evs, spl, over, ones, Ex.ends, evR, oneOf, Option.isSome_some, Option.getD_some, if_true, if_false, true_and, and_true, List.getElem?_cons_zero, List.getElem?_cons_succ, List.length_cons, List.length_nil, List.drop_zero, List.drop_succ_cons, List.take_succ_cons, List.take_zero, List.cons_append, List.nil_append, Option.some.injEq, exists_eq_left', top, List.cons.injEq, ↓reduceIte, Nat.reduceEqDiff, Nat.reduceLeDiff, Nat.reduceAdd, Nat.reduceSub, Nat.reduceMul, reduceCtorEq, Nat.succ_ne_zero, imp_T, imp_F, List.getElem?_nil, Int.reduceEq, Int.reduceLT, Int.reduceLE, Int.reduceNeg, Int.reduceAdd, Int.reduceSub, decide_true, decide_false, eq_self, not_true_eq_false, not_false_eq_true, ite_true, ite_false]
  generalize eh : ((((h.new (Blk.ofL [V.int IntKind.i64 ha, va] 0 false)).new (Blk.ofL [V.int IntKind.i64 ha, vb] 0 false)).new (Blk.ofL [V.int IntKind.i64 hi, vi] 0 false)).new (Blk.ofL [V.int IntKind.i64 hi, vs] 0 false)) = h1
  have hx1 : Ext h h1 := by rw [← eh]; exact ((((Ext.refl h).new _).new _).new _).new _
  have e1 : h1.next = h.next + 4 := by rw [← eh]; rfl
  have g0 : h1.get (pa h.next) = .ofL [.int .i64 ha, va] 0 false := by rw [← eh]; simp only [↓wpA1, ↓wpA2, ↓wpA3, wpB1, wpB2, wpB3, wpB4, wpB5, wpB6, repeatV, RX.evs, spl, over, ones, Ex.ends, evR, oneOf, Option.isSome_some, Option.getD_some, if_true, if_false, true_and, and_true, List.getElem?_cons_zero, List.getElem?_cons_succ, List.length_cons, List.length_nil, List.drop_zero, List.drop_succ_cons, List.take_succ_cons, List.take_zero, List.cons_append, List.nil_append, Option.some.injEq, exists_eq_left', top, List.cons.injEq, ↓reduceIte, Nat.reduceEqDiff, Nat.reduceLeDiff, Nat.reduceAdd, Nat.reduceSub, Nat.reduceMul, reduceCtorEq, Nat.succ_ne_zero, imp_T, imp_F, List.getElem?_nil, Int.reduceEq, Int.reduceLT, Int.reduceLE, Int.reduceNeg, Int.reduceAdd, Int.reduceSub, decide_true, decide_false, eq_self, not_true_eq_false, not_false_eq_true, ite_true, ite_false]
  have g2 : h1.get (pa (h.next + 2)) = .ofL [.int .i64 hi, vi] 0 false := by rw [← eh]; simp only [↓wpA1, ↓wpA2, ↓wpA3, wpB1, wpB2, wpB3, wpB4, wpB5, wpB6, repeatV, RX.evs, spl, over, ones, Ex.ends, evR, oneOf, Option.isSome_some, Option.getD_some, if_true, if_false, true_and, and_true, List.getElem?_cons_zero, List.getElem?_cons_succ, List.length_cons, List.length_nil, List.drop_zero, List.drop_succ_cons, List.take_succ_cons, List.take_zero, List.cons_append, List.nil_append, Option.some.injEq, exists_eq_left', top, List.cons.injEq, ↓reduceIte, Nat.reduceEqDiff, Nat.reduceLeDiff, Nat.reduceAdd, Nat.reduceSub, Nat.reduceMul, reduceCtorEq, Nat.succ_ne_zero, imp_T, imp_F, List.getElem?_nil, Int.reduceEq, Int.reduceLT, Int.reduceLE, Int.reduceNeg, Int.reduceAdd, Int.reduceSub, decide_true, decide_false, eq_self, not_true_eq_false, not_false_eq_true, ite_true, ite_false]
  have g3 : h1.get (pa (h.next + 3)) = .ofL [.int .i64 hi, vs] 0 false := by rw [← eh]; simp only [↓wpA1, ↓wpA2, ↓wpA3, wpB1, wpB2, wpB3, wpB4, wpB5, wpB6, repeatV, RX.evs, spl, over, ones, Ex.ends, evR, oneOf, Option.isSome_some, Option.getD_some, if_true, if_false, true_and, and_true, List.getElem?_cons_zero, List.getElem?_cons_succ, List.length_cons, List.length_nil, List.drop_zero, List.drop_succ_cons, List.take_succ_cons, List.take_zero, List.cons_append, List.nil_append, Option.some.injEq, exists_eq_left', top, List.cons.injEq, ↓reduceIte, Nat.reduceEqDiff, Nat.reduceLeDiff, Nat.reduceAdd, Nat.reduceSub, Nat.reduceMul, reduceCtorEq, Nat.succ_ne_zero, imp_T, imp_F, List.getElem?_nil, Int.reduceEq, Int.reduceLT, Int.reduceLE, Int.reduceNeg, Int.reduceAdd, Int.reduceSub, decide_true, decide_false, eq_self, not_true_eq_false, not_false_eq_true, ite_true, ite_false]
  refine callK_intro (same_ctr ha ha va vb fa fa h1 (ka.v.ext hx1) (kb.ext hx1) hn) ?_
  rintro x h2 ⟨rfl, hx2⟩
  rw [decide_eq_true rfl, eqFs_self]
  simp +contextual only [↓wpA1, ↓wpA2, ↓wpA3, wpB1, wpB2, wpB3, wpB4, wpB5, wpB6, repeatV, RX.evs, spl, over, ones, Ex.ends, evR, oneOf, Option.isSome_some, Option.getD_some, if_true, if_false, true_and, and_true, List.getElem?_cons_zero, List.getElem?_cons_succ, List.length_cons, List.length_nil, List.drop_zero, List.drop_succ_cons, List.take_succ_cons, List.take_zero, List.cons_append, List.nil_append, Option.some.injEq, exists_eq_left', top, List.cons.injEq, ↓reduceIte, Nat.reduceEqDiff, Nat.reduceLeDiff, Nat.reduceAdd, Nat.reduceSub, Nat.reduceMul, reduceCtorEq, Nat.succ_ne_zero, imp_T, imp_F, List.getElem?_nil, Int.reduceEq, Int.reduceLT, Int.reduceLE, Int.reduceNeg, Int.reduceAdd, Int.reduceSub, decide_true, decide_false, eq_self, not_true_eq_false, not_false_eq_true, ite_true, ite_false]
  have hx12 := hx1.trans hx2
  have n2 := hx2.next
  have hob : ∀ b, va.blk b → unPa b < h.next := fun b hb => ka.v.old hb
  have hpa : ∀ i, h.next ≤ i → ¬ va.blk (pa i) := fun i hi q => by have := hob _ q; rw [unPa_pa] at this; omega
  refine loopK_intro (fun r h' => ∃ (i : Nat) (ws : List V), i ≤ fa.length ∧ r 13 = .int .i64 i ∧ r 6 = .ptr (pa h.next) 0 ∧ r 10 = .ptr (pa (h.next + 2)) 0 ∧ r 11 = .ptr (pa (h.next + 3)) 0 ∧
      Mod va.blk h2 h' ∧ SlO B h' 4 va fa.length ws) (fun r _ => fa.length - (r 13).toN) ?_ ?_
  · refine ⟨0, encs fa, Nat.zero_le _, ?_⟩
    simp only [↓wpA1, ↓wpA2, ↓wpA3, wpB1, wpB2, wpB3, wpB4, wpB5, wpB6, repeatV, RX.evs, spl, over, ones, Ex.ends, evR, oneOf, Option.isSome_some, Option.getD_some, if_true, if_false, true_and, and_true, List.getElem?_cons_zero, List.getElem?_cons_succ, List.length_cons, List.length_nil, List.drop_zero, List.drop_succ_cons, List.take_succ_cons, List.take_zero, List.cons_append, List.nil_append, Option.some.injEq, exists_eq_left', top, List.cons.injEq, ↓reduceIte, Nat.reduceEqDiff, Nat.reduceLeDiff, Nat.reduceAdd, Nat.reduceSub, Nat.reduceMul, reduceCtorEq, Nat.succ_ne_zero, imp_T, imp_F, List.getElem?_nil, Int.reduceEq, Int.reduceLT, Int.reduceLE, Int.reduceNeg, Int.reduceAdd, Int.reduceSub, decide_true, decide_false, eq_self, not_true_eq_false, not_false_eq_true, ite_true, ite_false]
    exact ⟨rfl, Mod.refl _ _, ka.ext hx12⟩
  · rintro r h' ⟨i, ws, hi', q13, q6, q10, q11, hm, ho⟩
    have n3 := hm.next
    have k0 : h'.get (pa h.next) = .ofL [.int .i64 ha, va] 0 false := by
      rw [hm.get _ (old_lt (by omega)) (hpa _ (by omega)), hx2.get _ (old_lt (by omega)), g0]
    have k2 : h'.get (pa (h.next + 2)) = .ofL [.int .i64 hi, vi] 0 false := by
      rw [hm.get _ (old_lt (by omega)) (hpa _ (by omega)), hx2.get _ (old_lt (by omega)), g2]
    have k3 : h'.get (pa (h.next + 3)) = .ofL [.int .i64 hi, vs] 0 false := by
      rw [hm.get _ (old_lt (by omega)) (hpa _ (by omega)), hx2.get _ (old_lt (by omega)), g3]
    by_cases hlt : i < fa.length
    · have hil : ((i : Int) < (fa.length : Int)) := by omega
      have hw : IntKind.i64.wrap ((i : Int) + 1) = ((i + 1 : Nat) : Int) := by rw [wrap_i64 (by omega) (by omega)]; rfl
      obtain ⟨b, off, h3, p1, p2, p3, p4, p5⟩ := ho.put (k := .i64) hlt (y := .agg [.int .i64 99, .int .i64 0, .int .i64 0, .bool false]) rfl rfl
      rw [store_ptr] at p3
      unfold c14l1
      simp +contextual only [q13, q6, q10, q11, k0, la, p1, p3, hil, hw, decide_true, ↓wpA1, ↓wpA2, ↓wpA3, wpB1, wpB2, wpB3, wpB4, wpB5, wpB6, repeatV, RX.evs, spl, over, ones, Ex.ends, evR, oneOf, Option.isSome_some, Option.getD_some, if_true, if_false, true_and, and_true, List.getElem?_cons_zero, List.getElem?_cons_succ, List.length_cons, List.length_nil, List.drop_zero, List.drop_succ_cons, List.take_succ_cons, List.take_zero, List.cons_append, List.nil_append, Option.some.injEq, exists_eq_left', top, List.cons.injEq, ↓reduceIte, Nat.reduceEqDiff, Nat.reduceLeDiff, Nat.reduceAdd, Nat.reduceSub, Nat.reduceMul, reduceCtorEq, Nat.succ_ne_zero, imp_T, imp_F, List.getElem?_nil, Int.reduceEq, Int.reduceLT, Int.reduceLE, Int.reduceNeg, Int.reduceAdd, Int.reduceSub, decide_true, decide_false, eq_self, not_true_eq_false, not_false_eq_true, ite_true, ite_false]
      exact ⟨⟨i + 1, _, by omega, rfl, hm.trans p5, p4⟩, by omega⟩
    · have hil : ¬ ((i : Int) < (fa.length : Int)) := by omega
      unfold c14l1
      simp +contextual only [q13, q6, q10, q11, k0, k2, k3, la, hil, decide_false, ↓wpA1, ↓wpA2, ↓wpA3, wpB1, wpB2, wpB3, wpB4, wpB5, wpB6, repeatV, RX.evs, spl, over, ones, Ex.ends, evR, oneOf, Option.isSome_some, Option.getD_some, if_true, if_false, true_and, and_true, List.getElem?_cons_zero, List.getElem?_cons_succ, List.length_cons, List.length_nil, List.drop_zero, List.drop_succ_cons, List.take_succ_cons, List.take_zero, List.cons_append, List.nil_append, Option.some.injEq, exists_eq_left', top, List.cons.injEq, ↓reduceIte, Nat.reduceEqDiff, Nat.reduceLeDiff, Nat.reduceAdd, Nat.reduceSub, Nat.reduceMul, reduceCtorEq, Nat.succ_ne_zero, imp_T, imp_F, List.getElem?_nil, Int.reduceEq, Int.reduceLT, Int.reduceLE, Int.reduceNeg, Int.reduceAdd, Int.reduceSub, decide_true, decide_false, eq_self, not_true_eq_false, not_false_eq_true, ite_true, ite_false]
      have hm0 : Mod va.blk h h' := (hx12.mod _).trans hm
      refine callK_intro (same_ctr hi hi vi vs fi fi h' ((ki.mod hm0 fun b hb q => ni b q hb)) (ks.mod hm0 fun b hb q => ns b q hb) hni) ?_
      rintro x h4 ⟨rfl, hx4⟩
      rw [decide_eq_true rfl, eqFs_self]
      simp +contextual only [↓wpA1, ↓wpA2, ↓wpA3, wpB1, wpB2, wpB3, wpB4, wpB5, wpB6, repeatV, RX.evs, spl, over, ones, Ex.ends, evR, oneOf, Option.isSome_some, Option.getD_some, if_true, if_false, true_and, and_true, List.getElem?_cons_zero, List.getElem?_cons_succ, List.length_cons, List.length_nil, List.drop_zero, List.drop_succ_cons, List.take_succ_cons, List.take_zero, List.cons_append, List.nil_append, Option.some.injEq, exists_eq_left', top, List.cons.injEq, ↓reduceIte, Nat.reduceEqDiff, Nat.reduceLeDiff, Nat.reduceAdd, Nat.reduceSub, Nat.reduceMul, reduceCtorEq, Nat.succ_ne_zero, imp_T, imp_F, List.getElem?_nil, Int.reduceEq, Int.reduceLT, Int.reduceLE, Int.reduceNeg, Int.reduceAdd, Int.reduceSub, decide_true, decide_false, eq_self, not_true_eq_false, not_false_eq_true, ite_true, ite_false]
      exact hm0.trans (hx4.mod _)
end Go.Proofs.Ytkjifhoiiciblaa
