/- The chapter's functions, walked by the abstract machine: plain lemmas, no condition. -/
import Derived.Test.YtjbiefneffiogaaGreatM10
import Derived.Test.YtjbiefneffiogaaGreatM7
set_option linter.unusedSectionVars false
set_option linter.unusedSimpArgs false
set_option linter.unusedVariables false

namespace Go.Proofs.YtjbiefneffiogaaGreat
open Go Am
def esT : List Int → Nat → List ME
  | [], _ => []
  | x :: l, n => ⟨.int .i64 x, .bool true, n⟩ :: esT l (n + 1)
theorem find_esT {k : Int} : ∀ (l : List Int) (n : Nat), findV KK.int.eq (.int .i64 k) (esT l n) = some (if l.contains k then some (.bool true) else none)
  | [], _ => rfl
  | x :: l, n => by
    have ih := find_esT (k := k) l (n + 1)
    simp only [esT, findV, KK.eq, eqIntC, V.onInt, show eqKind .i64 .i64 = true from rfl, cond_true, eqB_dec, List.contains_cons] at ih ⊢
    by_cases h : k = x
    · subst h; simp
    · have hb : (k == x) = false := by simpa using h
      rw [decide_eq_false h, hb, Bool.false_or]
      exact ih
theorem put_esT {k : Int} {c : Nat} : ∀ (l : List Int) (n : Nat), l.contains k = false → putV KK.int.eq (.int .i64 k) (.bool true) c (esT l n) = some (esT l n ++ [⟨.int .i64 k, .bool true, c⟩], true)
  | [], _, _ => rfl
  | x :: l, n, h => by
    rw [List.contains_cons, Bool.or_eq_false_iff] at h
    have ih := put_esT (k := k) (c := c) l (n + 1) h.2
    have hx : ¬ k = x := by simpa using h.1
    simp only [esT, putV, KK.eq, eqIntC, V.onInt, show eqKind .i64 .i64 = true from rfl, cond_true, eqB_dec, decide_eq_false hx, cond_false] at ih ⊢
    rw [ih]
    rfl
theorem esT_app : ∀ (l : List Int) (n : Nat) (k : Int), esT l n ++ [⟨.int .i64 k, .bool true, n + l.length⟩] = esT (l ++ [k]) n
  | [], n, k => rfl
  | x :: l, n, k => by
    rw [esT, List.cons_append, List.cons_append, esT, ← esT_app l (n + 1) k, List.length_cons]
    congr 4
    omega
theorem look_esT {h : Heap} {b : Pa} {l : List Int} {c : Nat} (hg : h.get b = .mp (esT l 0) c) (k : Int) : lookupV KK.int.eq (.bool false) false h (.map b) (.int .i64 k) = some (.bool (l.contains k)) := by
  simp only [lookupV, mapSee, hg, Blk.onMap, find_esT, cond_false]
  cases l.contains k <;> rfl
theorem upd_esT {h : Heap} {b : Pa} {l : List Int} (hg : h.get b = .mp (esT l 0) l.length) {k : Int} (hk : l.contains k = false) : updV KK.int.eq h (.map b) (.int .i64 k) (.bool true) = some (h.set b (.mp (esT (l ++ [k]) 0) (l ++ [k]).length)) := by
  simp only [updV, hg, Blk.onMap, put_esT l 0 hk, cond_true, Option.some.injEq]
  rw [← esT_app l 0 k, Nat.zero_add, List.length_append]
  rfl
def tagsL (nums : Bool) : List Int → List Int → Bool
  | _, [] => true
  | seen, t :: l => (if nums then numB t else varB t) && !seen.contains t && tagsL nums (seen ++ [t]) l
theorem tagsL_eq (nums : Bool) : ∀ (l seen : List Int), tagsL nums seen l = (tagsB nums l && l.all fun t => !seen.contains t)
  | [], seen => by simp [tagsL, tagsB, diff]
  | t :: l, seen => by
    rw [tagsL, tagsL_eq nums l (seen ++ [t])]
    have : (l.all fun u => !(seen ++ [t]).contains u) = ((l.all fun u => !seen.contains u) && !l.contains t) := by
      rw [Bool.eq_iff_iff]
      simp only [List.all_eq_true, Bool.and_eq_true, Bool.not_eq_true', List.contains_eq_mem, decide_eq_false_iff_not, List.mem_append, List.mem_singleton, not_or]
      constructor
      · intro h; exact ⟨fun x hx => (h x hx).1, fun ht => (h t ht).2 rfl⟩
      · rintro ⟨h1, h2⟩ x hx; exact ⟨h1 x hx, fun e => h2 (e ▸ hx)⟩
    rw [this]
    simp only [tagsB, List.all_cons, diff]
    generalize (if nums = true then numB t else varB t) = p
    generalize seen.contains t = q
    generalize l.contains t = r
    cases p <;> cases q <;> cases r <;> simp [Bool.and_assoc, Bool.and_comm, Bool.and_left_comm]
theorem tagsL_nil (nums : Bool) (l : List Int) : tagsL nums [] l = tagsB nums l := by rw [tagsL_eq]; simp
theorem tagged_ctr (c : Co) (vs : List V) (h : Heap) (H : CoIn h c vs) (hl : c.t.length ≤ 4611686018427387903) (hl2 : c.l.length ≤ 4611686018427387903) : Ctr Tryz.prog 123 [.agg vs] h fun x h' => x = .bool (taggedP c) ∧ Ext h h' := by
  obtain ⟨va, vt, vl, rfl, Ha, Ht, Hl⟩ := H.open
  refine c123_ctr rfl (wpK_of ?_)
  unfold c123
  have e0 : Ext h (h.new (.ofL [.int .i64 c.k, .int .i64 c.x, .int .i64 c.n, .str c.s, va, vt, vl] 0 false)) := (Ext.refl h).new _
  simp +contextual only [show ∀ g : Heap, makeMapV none g = .val (.map (pa g.next)) (g.new (.mp [] 0)) from fun g => rfl, Ht.len, ↓wA, wC, Ex.ends, evR, oneOf, top, ↓reduceIte, Nat.reduceEqDiff, Nat.reduceLeDiff, Nat.reduceAdd, Nat.reduceSub, Nat.reduceMul, reduceCtorEq, Int.reduceEq, Int.reduceLT, Int.reduceLE, Int.reduceNeg]
  refine loopK_intro (fun r h' => Ext h h' ∧ h'.get (pa h.next) = .ofL [.int .i64 c.k, .int .i64 c.x, .int .i64 c.n, .str c.s, va, vt, vl] 0 false ∧ h.next + 2 ≤ h'.next ∧ r 1 = .ptr (pa h.next) 0 ∧ r 3 = .map (pa (h.next + 1)) ∧ r 9 = vt ∧ r 10 = .int .i64 c.t.length ∧
    ∃ i : Nat, r 11 = .int .i64 i ∧ i ≤ c.t.length ∧ h'.get (pa (h.next + 1)) = .mp (esT (c.t.take i) 0) (c.t.take i).length ∧ tagsB (decide (c.k = 10)) c.t = tagsL (decide (c.k = 10)) (c.t.take i) (c.t.drop i)) (fun r h' => c.t.length - (r 11).toN) ?_ ?_
  · refine ⟨(e0.new _), ?_, ?_, by simp only [↓wA, wC, ↓reduceIte, Nat.reduceEqDiff, reduceCtorEq], by simp only [↓wA, wC, ↓reduceIte, Nat.reduceEqDiff, reduceCtorEq], by simp only [↓wA, wC, ↓reduceIte, Nat.reduceEqDiff, reduceCtorEq], by simp only [↓wA, wC, ↓reduceIte, Nat.reduceEqDiff, reduceCtorEq], 0, by simp only [↓wA, wC, ↓reduceIte, Nat.reduceEqDiff, reduceCtorEq] <;> rfl, by omega, ?_, ?_⟩
    · simp only [↓wA, wC, Ex.ends, evR, oneOf, top, ↓reduceIte, Nat.reduceEqDiff, Nat.reduceLeDiff, Nat.reduceAdd, Nat.reduceSub, Nat.reduceMul, reduceCtorEq, Int.reduceEq, Int.reduceLT, Int.reduceLE, Int.reduceNeg]
    · simp only [next_new]; omega
    · simp only [↓wA, wC, Ex.ends, evR, oneOf, top, ↓reduceIte, Nat.reduceEqDiff, Nat.reduceLeDiff, Nat.reduceAdd, Nat.reduceSub, Nat.reduceMul, reduceCtorEq, Int.reduceEq, Int.reduceLT, Int.reduceLE, Int.reduceNeg]; rfl
    · rw [List.take_zero, List.drop_zero, tagsL_nil]
  · rintro r h' ⟨hx, hb, hn, r1, r3, r9, r10, i, r11, hi, hm, hok⟩
    unfold c123l1
    by_cases hlt : i < c.t.length
    · have g0 : ((i : Int) < (c.t.length : Int)) = True := eq_true (by omega)
      obtain ⟨b, o, ia, ld⟩ := ints_at (Ht.ext hx) (k := .i64) hlt
      rw [List.drop_eq_getElem_cons hlt, tagsL] at hok
      have w := w_inc hlt (by omega)
      have lk := look_esT hm c.t[i]
      have hne : (h.next = h.next + 1) = False := eq_false (by omega)
      have hne' : (h.next + 1 = h.next) = False := eq_false (by omega)
      have hmx := hx.set (i := h.next + 1) (by omega) (.mp (esT (c.t.take i ++ [c.t[i]]) 0) (c.t.take i ++ [c.t[i]]).length)
      have htk : c.t.take (i + 1) = c.t.take i ++ [c.t[i]] := by rw [List.take_add_one, List.getElem?_eq_getElem hlt]; rfl
      have hb2 : (h'.set (pa (h.next + 1)) (.mp (esT (c.t.take i ++ [c.t[i]]) 0) (c.t.take i ++ [c.t[i]]).length)).get (pa h.next) = .ofL [.int .i64 c.k, .int .i64 c.x, .int .i64 c.n, .str c.s, va, vt, vl] 0 false := by
        rw [get_set, if_neg (by rw [pa_eq]; omega)]; exact hb
      have hm2 : (h'.set (pa (h.next + 1)) (.mp (esT (c.t.take i ++ [c.t[i]]) 0) (c.t.take i ++ [c.t[i]]).length)).get (pa (h.next + 1)) = .mp (esT (c.t.take i ++ [c.t[i]]) 0) (c.t.take i ++ [c.t[i]]).length := by
        rw [get_set, if_pos rfl]
      simp +contextual only [r1, r3, r9, r10, r11, g0, ia, ld, ↓wA, wC, Ex.ends, evR, oneOf, top, ↓reduceIte, Nat.reduceEqDiff, Nat.reduceLeDiff, Nat.reduceAdd, Nat.reduceSub, Nat.reduceMul, reduceCtorEq, Int.reduceEq, Int.reduceLT, Int.reduceLE, Int.reduceNeg]
      refine callK_pure (variable_pure _ _) ?_
      have hnum : (decide (-1073741824 ≤ c.t[i]) && decide (c.t[i] ≤ 1073741823)) = numB c.t[i] := rfl
      generalize hV : (if (decide (c.k = 10)) = true then numB c.t[i] else varB c.t[i]) = good at hok
      have hfin : good = true → (c.t.take i).contains c.t[i] = false → tagsB (decide (c.k = 10)) c.t = tagsL (decide (c.k = 10)) (c.t.take (i + 1)) (c.t.drop (i + 1)) := by
        intro q1 q2
        rw [hok, q1, q2, htk]; rfl
      have hbad : (!good || (c.t.take i).contains c.t[i]) = true → taggedP c = false := by
        intro q
        have : tagsB (decide (c.k = 10)) c.t = false := by
          rw [hok]
          revert q
          cases good <;> cases (c.t.take i).contains c.t[i] <;> simp
        rw [taggedP, this, Bool.false_and]
      by_cases hk : c.k = 10
      · have hk1 := eq_true hk
        have hgood : numB c.t[i] = good := by rw [← hV, if_pos (decide_eq_true hk)]
        simp +contextual only [r1, r3, r9, r10, r11, hb, hk1, hnum, hgood, lk, ↓wA, wC, Ex.ends, evR, oneOf, top, ↓reduceIte, Nat.reduceEqDiff, Nat.reduceLeDiff, Nat.reduceAdd, Nat.reduceSub, Nat.reduceMul, reduceCtorEq, Int.reduceEq, Int.reduceLT, Int.reduceLE, Int.reduceNeg]
        cases good with
        | false =>
          have hbd := hbad (by simp)
          simp +contextual only [r1, r3, r9, r10, r11, hbd, ↓wA, wC, Ex.ends, evR, oneOf, top, ↓reduceIte, Nat.reduceEqDiff, Nat.reduceLeDiff, Nat.reduceAdd, Nat.reduceSub, Nat.reduceMul, reduceCtorEq, Int.reduceEq, Int.reduceLT, Int.reduceLE, Int.reduceNeg]
          exact hx
        | true =>
          cases hs : (c.t.take i).contains c.t[i] with
          | true =>
            have hbd := hbad (by rw [hs]; rfl)
            simp +contextual only [r1, r3, r9, r10, r11, lk, hs, hbd, ↓wA, wC, Ex.ends, evR, oneOf, top, ↓reduceIte, Nat.reduceEqDiff, Nat.reduceLeDiff, Nat.reduceAdd, Nat.reduceSub, Nat.reduceMul, reduceCtorEq, Int.reduceEq, Int.reduceLT, Int.reduceLE, Int.reduceNeg]
            exact hx
          | false =>
            have hu := upd_esT hm hs
            simp +contextual only [r1, r3, r9, r10, r11, lk, hs, hu, w, ↓wA, wC, Ex.ends, evR, oneOf, top, ↓reduceIte, Nat.reduceEqDiff, Nat.reduceLeDiff, Nat.reduceAdd, Nat.reduceSub, Nat.reduceMul, reduceCtorEq, Int.reduceEq, Int.reduceLT, Int.reduceLE, Int.reduceNeg]
            exact ⟨⟨hmx, hb, hn, ⟨i + 1, rfl, hlt, by rw [htk], by have := hfin rfl hs; simpa only [hk1, decide_true, decide_false] using this⟩⟩, by omega⟩
      · have hk1 := eq_false hk
        have hgood : varB c.t[i] = good := by rw [← hV, if_neg (by simp [hk])]
        simp +contextual only [r1, r3, r9, r10, r11, hb, hk1, hnum, hgood, lk, ↓wA, wC, Ex.ends, evR, oneOf, top, ↓reduceIte, Nat.reduceEqDiff, Nat.reduceLeDiff, Nat.reduceAdd, Nat.reduceSub, Nat.reduceMul, reduceCtorEq, Int.reduceEq, Int.reduceLT, Int.reduceLE, Int.reduceNeg]
        cases good with
        | false =>
          have hbd := hbad (by simp)
          simp +contextual only [r1, r3, r9, r10, r11, hbd, ↓wA, wC, Ex.ends, evR, oneOf, top, ↓reduceIte, Nat.reduceEqDiff, Nat.reduceLeDiff, Nat.reduceAdd, Nat.reduceSub, Nat.reduceMul, reduceCtorEq, Int.reduceEq, Int.reduceLT, Int.reduceLE, Int.reduceNeg]
          exact hx
        | true =>
          cases hs : (c.t.take i).contains c.t[i] with
          | true =>
            have hbd := hbad (by rw [hs]; rfl)
            simp +contextual only [r1, r3, r9, r10, r11, lk, hs, hbd, ↓wA, wC, Ex.ends, evR, oneOf, top, ↓reduceIte, Nat.reduceEqDiff, Nat.reduceLeDiff, Nat.reduceAdd, Nat.reduceSub, Nat.reduceMul, reduceCtorEq, Int.reduceEq, Int.reduceLT, Int.reduceLE, Int.reduceNeg]
            exact hx
          | false =>
            have hu := upd_esT hm hs
            simp +contextual only [r1, r3, r9, r10, r11, lk, hs, hu, w, ↓wA, wC, Ex.ends, evR, oneOf, top, ↓reduceIte, Nat.reduceEqDiff, Nat.reduceLeDiff, Nat.reduceAdd, Nat.reduceSub, Nat.reduceMul, reduceCtorEq, Int.reduceEq, Int.reduceLT, Int.reduceLE, Int.reduceNeg]
            exact ⟨⟨hmx, hb, hn, ⟨i + 1, rfl, hlt, by rw [htk], by have := hfin rfl hs; simpa only [hk1, decide_true, decide_false] using this⟩⟩, by omega⟩
    · have g0 : ((i : Int) < (c.t.length : Int)) = False := eq_false (by omega)
      rw [List.drop_eq_nil_of_le (by omega)] at hok
      have hL := (Hl.ext hx).len
      have hT := (Ht.ext hx).len
      have w2 : IntKind.i64.wrap ((c.t.length : Int) + 1) = (c.t.length : Int) + 1 := by rw [wrap_i64 (by omega) (by omega)]
      simp +contextual only [r1, r3, r9, r10, r11, g0, hb, hL, hT, w2, ↓wA, wC, Ex.ends, evR, oneOf, top, ↓reduceIte, Nat.reduceEqDiff, Nat.reduceLeDiff, Nat.reduceAdd, Nat.reduceSub, Nat.reduceMul, reduceCtorEq, Int.reduceEq, Int.reduceLT, Int.reduceLE, Int.reduceNeg]
      refine ⟨?_, hx⟩
      rw [taggedP, hok]
      rfl
end Go.Proofs.YtjbiefneffiogaaGreat

namespace Go.Proofs.YtjbiefneffiogaaGreat
open Go Am
theorem ownP_none {b : Bool} {c : Co} (h : rulesM c.k = none) : ownP b c = false := by simp [ownP, h]
set_option maxHeartbeats 2000000 in
theorem own_ctr (b : Bool) (c : Co) (vs : List V) (h : Heap) (H : CoIn h c vs) (h1 : c.t.length ≤ 4611686018427387903) (h2 : c.l.length ≤ 4611686018427387903) (h3 : c.a.length ≤ 4611686018427387903) :
    Ctr Tryz.prog 61 [.agg vs, .bool b] h fun x h' => x = .bool (ownP b c) ∧ Ext h h' := by
  obtain ⟨va, vt, vl, rfl, Ha, Ht, Hl⟩ := H.open
  refine c61_ctr rfl (wpK_of ?_)
  unfold c61
  simp +contextual only [↓wA, wC, Ex.ends, evR, oneOf, top, ↓reduceIte, Nat.reduceEqDiff, Nat.reduceLeDiff, Nat.reduceAdd, Nat.reduceSub, Nat.reduceMul, reduceCtorEq, Int.reduceEq, Int.reduceLT, Int.reduceLE, Int.reduceNeg]
  refine callK_intro (rules_ctr c.k _) ?_
  rintro x g1 ⟨rfl, hx1⟩
  have e0 : Ext h (h.new (.ofL [.int .i64 c.k, .int .i64 c.x, .int .i64 c.n, .str c.s, va, vt, vl] 0 false)) := (Ext.refl h).new _
  have hx := e0.trans hx1
  have hb : g1.get (pa h.next) = .ofL [.int .i64 c.k, .int .i64 c.x, .int .i64 c.n, .str c.s, va, vt, vl] 0 false := by rw [hx1.get _ (old_lt (by rw [next_new]; omega)), get_new_self]
  have hlt : h.next < g1.next := by have := hx1.next; rw [next_new] at this; omega
  have n1 : (g1.next = h.next) = False := eq_false (by omega)
  have n2 : (h.next = g1.next) = False := eq_false (by omega)
  cases hr : rulesM c.k with
  | none =>
    have hp := ownP_none (b := b) hr
    simp +contextual only [hr, hp, Option.getD, Option.isSome, Ru.enc, Ru.none, hb, n1, n2, ↓wA, wC, Ex.ends, evR, oneOf, top, ↓reduceIte, Nat.reduceEqDiff, Nat.reduceLeDiff, Nat.reduceAdd, Nat.reduceSub, Nat.reduceMul, reduceCtorEq, Int.reduceEq, Int.reduceLT, Int.reduceLE, Int.reduceNeg]
    exact (hx.new _).set (by omega) _
  | some r =>
    obtain ⟨rx, rn, rs, rt, a0, a1, l0, l1⟩ := r
    have hO : ownP b c = (varB c.x && (rx || decide (c.x = 0)) && (rn || b || decide (c.n = 0)) && (rs || decide (c.s = [])) && (rt || decide (c.t = [])) &&
      (withinI c.a.length a0 a1 && withinI c.l.length l0 l1 && varB c.n) &&
      (!(decide (c.k = 5) && decide (1024 ≤ c.n)) && !(decide (c.k = 3) && !decide (takes c.s = c.a.length)) && (!rt || taggedP c)) && c.a.all atB) := by
      simp only [ownP, hr]
    have ht0 : (c.t = []) ↔ c.t.length = 0 := by rw [List.length_eq_zero_iff]
    simp +contextual only [hr, Option.getD, Option.isSome, Ru.enc, hb, n1, n2, ↓wA, wC, Ex.ends, evR, oneOf, top, ↓reduceIte, Nat.reduceEqDiff, Nat.reduceLeDiff, Nat.reduceAdd, Nat.reduceSub, Nat.reduceMul, reduceCtorEq, Int.reduceEq, Int.reduceLT, Int.reduceLE, Int.reduceNeg]
    refine callK_pure (variable_pure _ _) ?_
    cases hvx : varB c.x with
    | false =>
      have hf : ownP b c = false := by rw [hO]; grind
      simp +contextual only [hb, n1, n2, hf, ↓wA, wC, Ex.ends, evR, oneOf, top, ↓reduceIte, Nat.reduceEqDiff, Nat.reduceLeDiff, Nat.reduceAdd, Nat.reduceSub, Nat.reduceMul, reduceCtorEq, Int.reduceEq, Int.reduceLT, Int.reduceLE, Int.reduceNeg]
      exact (hx.new _).set (by omega) _
    | true =>
    cases q1 : (!rx && !decide (c.x = 0)) with
    | true =>
      have hf : ownP b c = false := by rw [hO]; grind
      simp +contextual only [hb, n1, n2, q1, hf, ↓wA, wC, Ex.ends, evR, oneOf, top, ↓reduceIte, Nat.reduceEqDiff, Nat.reduceLeDiff, Nat.reduceAdd, Nat.reduceSub, Nat.reduceMul, reduceCtorEq, Int.reduceEq, Int.reduceLT, Int.reduceLE, Int.reduceNeg]
      exact (hx.new _).set (by omega) _
    | false =>
    cases q2 : (!rn && !b && !decide (c.n = 0)) with
    | true =>
      have hf : ownP b c = false := by rw [hO]; grind
      simp +contextual only [hb, n1, n2, q1, q2, hf, ↓wA, wC, Ex.ends, evR, oneOf, top, ↓reduceIte, Nat.reduceEqDiff, Nat.reduceLeDiff, Nat.reduceAdd, Nat.reduceSub, Nat.reduceMul, reduceCtorEq, Int.reduceEq, Int.reduceLT, Int.reduceLE, Int.reduceNeg]
      exact (hx.new _).set (by omega) _
    | false =>
    cases q3 : (!rs && !decide (c.s = [])) with
    | true =>
      have hf : ownP b c = false := by rw [hO]; grind
      simp +contextual only [hb, n1, n2, q1, q2, q3, hf, ↓wA, wC, Ex.ends, evR, oneOf, top, ↓reduceIte, Nat.reduceEqDiff, Nat.reduceLeDiff, Nat.reduceAdd, Nat.reduceSub, Nat.reduceMul, reduceCtorEq, Int.reduceEq, Int.reduceLT, Int.reduceLE, Int.reduceNeg]
      exact (hx.new _).set (by omega) _
    | false =>
    have hT0 := (Ht.ext hx).len
    cases q4 : (!rt && decide (0 < (c.t.length : Int))) with
    | true =>
      have hf : ownP b c = false := by rw [hO]; grind
      simp +contextual only [hb, n1, n2, q1, q2, q3, q4, hT0, hf, ↓wA, wC, Ex.ends, evR, oneOf, top, ↓reduceIte, Nat.reduceEqDiff, Nat.reduceLeDiff, Nat.reduceAdd, Nat.reduceSub, Nat.reduceMul, reduceCtorEq, Int.reduceEq, Int.reduceLT, Int.reduceLE, Int.reduceNeg]
      exact (hx.new _).set (by omega) _
    | false =>
    have hA0 := (Ha.ext hx).len
    have keep : ∀ g g' : Heap, Ext g g' → g1.next < g.next ∧ g.get (pa h.next) = .ofL [.int .i64 c.k, .int .i64 c.x, .int .i64 c.n, .str c.s, va, vt, vl] 0 false ∧ g.get (pa g1.next) = .ofL [.bool rx, .bool rn, .bool rs, .bool rt, .int .i64 a0, .int .i64 a1, .int .i64 l0, .int .i64 l1] 0 false →
        g1.next < g'.next ∧ g'.get (pa h.next) = .ofL [.int .i64 c.k, .int .i64 c.x, .int .i64 c.n, .str c.s, va, vt, vl] 0 false ∧ g'.get (pa g1.next) = .ofL [.bool rx, .bool rn, .bool rs, .bool rt, .int .i64 a0, .int .i64 a1, .int .i64 l0, .int .i64 l1] 0 false := by
      rintro g g' e ⟨k1, k2, k3⟩
      exact ⟨Nat.lt_of_lt_of_le k1 e.next, by rw [e.get _ (old_lt (by omega))]; exact k2, by rw [e.get _ (old_lt k1)]; exact k3⟩
    simp +contextual only [hb, n1, n2, q1, q2, q3, q4, hT0, hA0, ↓wA, wC, Ex.ends, evR, oneOf, top, ↓reduceIte, Nat.reduceEqDiff, Nat.reduceLeDiff, Nat.reduceAdd, Nat.reduceSub, Nat.reduceMul, reduceCtorEq, Int.reduceEq, Int.reduceLT, Int.reduceLE, Int.reduceNeg]
    have s1 : Ext h ((g1.new (Blk.ofL [V.bool false, V.bool false, V.bool false, V.bool false, V.int IntKind.i64 0, V.int IntKind.i64 0, V.int IntKind.i64 0, V.int IntKind.i64 0] 0 false)).set (pa g1.next) (.ofL [.bool rx, .bool rn, .bool rs, .bool rt, .int .i64 a0, .int .i64 a1, .int .i64 l0, .int .i64 l1] 0 false)) := (hx.new _).set (by omega) _
    have k1 : g1.next < ((g1.new (Blk.ofL [V.bool false, V.bool false, V.bool false, V.bool false, V.int IntKind.i64 0, V.int IntKind.i64 0, V.int IntKind.i64 0, V.int IntKind.i64 0] 0 false)).set (pa g1.next) (.ofL [.bool rx, .bool rn, .bool rs, .bool rt, .int .i64 a0, .int .i64 a1, .int .i64 l0, .int .i64 l1] 0 false)).next ∧ ((g1.new (Blk.ofL [V.bool false, V.bool false, V.bool false, V.bool false, V.int IntKind.i64 0, V.int IntKind.i64 0, V.int IntKind.i64 0, V.int IntKind.i64 0] 0 false)).set (pa g1.next) (.ofL [.bool rx, .bool rn, .bool rs, .bool rt, .int .i64 a0, .int .i64 a1, .int .i64 l0, .int .i64 l1] 0 false)).get (pa h.next) = .ofL [.int .i64 c.k, .int .i64 c.x, .int .i64 c.n, .str c.s, va, vt, vl] 0 false ∧ ((g1.new (Blk.ofL [V.bool false, V.bool false, V.bool false, V.bool false, V.int IntKind.i64 0, V.int IntKind.i64 0, V.int IntKind.i64 0, V.int IntKind.i64 0] 0 false)).set (pa g1.next) (.ofL [.bool rx, .bool rn, .bool rs, .bool rt, .int .i64 a0, .int .i64 a1, .int .i64 l0, .int .i64 l1] 0 false)).get (pa g1.next) = .ofL [.bool rx, .bool rn, .bool rs, .bool rt, .int .i64 a0, .int .i64 a1, .int .i64 l0, .int .i64 l1] 0 false := by
      refine ⟨by rw [next_set, next_new]; omega, ?_, ?_⟩
      · rw [get_set, if_neg (by rw [pa_eq]; omega), get_new, if_neg (by rw [pa_eq]; omega)]; exact hb
      · rw [get_set, if_pos rfl]
    generalize (g1.new (Blk.ofL [V.bool false, V.bool false, V.bool false, V.bool false, V.int IntKind.i64 0, V.int IntKind.i64 0, V.int IntKind.i64 0, V.int IntKind.i64 0] 0 false)).set (pa g1.next) (.ofL [.bool rx, .bool rn, .bool rs, .bool rt, .int .i64 a0, .int .i64 a1, .int .i64 l0, .int .i64 l1] 0 false) = G1 at *
    refine callK_intro (within_ctr _ _ _ G1) ?_
    rintro x g2 ⟨rfl, hx2⟩
    obtain ⟨k2, c2, d2⟩ := keep G1 g2 hx2 k1
    have s2 := s1.trans hx2
    have hL2 := (Hl.ext s2).len
    cases w1 : withinI (c.a.length : Int) a0 a1 with
    | false =>
      have hf : ownP b c = false := by rw [hO]; grind
      simp +contextual only [c2, d2, n1, n2, w1, hf, ↓wA, wC, Ex.ends, evR, oneOf, top, ↓reduceIte, Nat.reduceEqDiff, Nat.reduceLeDiff, Nat.reduceAdd, Nat.reduceSub, Nat.reduceMul, reduceCtorEq, Int.reduceEq, Int.reduceLT, Int.reduceLE, Int.reduceNeg]
      exact s2
    | true =>
    simp +contextual only [c2, d2, n1, n2, w1, hL2, ↓wA, wC, Ex.ends, evR, oneOf, top, ↓reduceIte, Nat.reduceEqDiff, Nat.reduceLeDiff, Nat.reduceAdd, Nat.reduceSub, Nat.reduceMul, reduceCtorEq, Int.reduceEq, Int.reduceLT, Int.reduceLE, Int.reduceNeg]
    refine callK_intro (within_ctr _ _ _ g2) ?_
    rintro x g3 ⟨rfl, hx3⟩
    obtain ⟨k3, c3, d3⟩ := keep g2 g3 hx3 ⟨k2, c2, d2⟩
    have s3 := s2.trans hx3
    cases w2 : withinI (c.l.length : Int) l0 l1 with
    | false =>
      have hf : ownP b c = false := by rw [hO]; grind
      simp +contextual only [c3, d3, n1, n2, w2, hf, ↓wA, wC, Ex.ends, evR, oneOf, top, ↓reduceIte, Nat.reduceEqDiff, Nat.reduceLeDiff, Nat.reduceAdd, Nat.reduceSub, Nat.reduceMul, reduceCtorEq, Int.reduceEq, Int.reduceLT, Int.reduceLE, Int.reduceNeg]
      exact s3
    | true =>
    simp +contextual only [c3, d3, n1, n2, w2, ↓wA, wC, Ex.ends, evR, oneOf, top, ↓reduceIte, Nat.reduceEqDiff, Nat.reduceLeDiff, Nat.reduceAdd, Nat.reduceSub, Nat.reduceMul, reduceCtorEq, Int.reduceEq, Int.reduceLT, Int.reduceLE, Int.reduceNeg]
    refine callK_pure (variable_pure _ _) ?_
    cases hvn : varB c.n with
    | false =>
      have hf : ownP b c = false := by rw [hO]; grind
      simp +contextual only [c3, d3, n1, n2, hf, ↓wA, wC, Ex.ends, evR, oneOf, top, ↓reduceIte, Nat.reduceEqDiff, Nat.reduceLeDiff, Nat.reduceAdd, Nat.reduceSub, Nat.reduceMul, reduceCtorEq, Int.reduceEq, Int.reduceLT, Int.reduceLE, Int.reduceNeg]
      exact s3
    | true =>
    have hA3 := (Ha.ext s3).len
    cases w3 : (decide (c.k = 5) && decide (1024 ≤ c.n)) with
    | true =>
      have hf : ownP b c = false := by rw [hO]; grind
      simp +contextual only [c3, d3, n1, n2, w3, hf, ↓wA, wC, Ex.ends, evR, oneOf, top, ↓reduceIte, Nat.reduceEqDiff, Nat.reduceLeDiff, Nat.reduceAdd, Nat.reduceSub, Nat.reduceMul, reduceCtorEq, Int.reduceEq, Int.reduceLT, Int.reduceLE, Int.reduceNeg]
      exact s3
    | false =>
    by_cases hk3 : c.k = 3
    · have hk3' := eq_true hk3
      have hk5' : (c.k = 5) = False := eq_false (by omega)
      simp +contextual only [c3, d3, n1, n2, hk3', hk5', hA3, ↓wA, wC, Ex.ends, evR, oneOf, top, ↓reduceIte, Nat.reduceEqDiff, Nat.reduceLeDiff, Nat.reduceAdd, Nat.reduceSub, Nat.reduceMul, reduceCtorEq, Int.reduceEq, Int.reduceLT, Int.reduceLE, Int.reduceNeg]
      refine callK_intro (prims_ctr g3) ?_
      rintro x g4 ⟨rfl, hm4, hx4⟩
      have lk := look_prims hm4 c.s
      obtain ⟨k4, c4, d4⟩ := keep g3 g4 hx4 ⟨k3, c3, d3⟩
      have s4 := s3.trans hx4
      have hA4 := (Ha.ext s4).len
      have g4n := hx4.next
      by_cases hta : takes c.s = c.a.length
      · have hta' := eq_true hta
        simp +contextual only [c3, d3, c4, d4, n1, n2, hk3', hk5', hA3, hA4, lk, hta', askg_look, ↓wA, wC, Ex.ends, evR, oneOf, top, ↓reduceIte, Nat.reduceEqDiff, Nat.reduceLeDiff, Nat.reduceAdd, Nat.reduceSub, Nat.reduceMul, reduceCtorEq, Int.reduceEq, Int.reduceLT, Int.reduceLE, Int.reduceNeg]
        cases rt with
        | false =>
          simp +contextual only [c4, d4, n1, n2, ↓wA, wC, Ex.ends, evR, oneOf, top, ↓reduceIte, Nat.reduceEqDiff, Nat.reduceLeDiff, Nat.reduceAdd, Nat.reduceSub, Nat.reduceMul, reduceCtorEq, Int.reduceEq, Int.reduceLT, Int.reduceLE, Int.reduceNeg]
          refine callK_intro (contains_atom_ctr c.a va g4 (Ha.ext s4) (by omega)) ?_
          rintro x g5 ⟨rfl, hx5⟩
          have hf : ownP b c = c.a.all atB := by rw [hO]; grind
          simp +contextual only [hf, Bool.not_not, ↓wA, wC, Ex.ends, evR, oneOf, top, ↓reduceIte, Nat.reduceEqDiff, Nat.reduceLeDiff, Nat.reduceAdd, Nat.reduceSub, Nat.reduceMul, reduceCtorEq, Int.reduceEq, Int.reduceLT, Int.reduceLE, Int.reduceNeg]
          exact (s4).trans hx5
        | true =>
          simp +contextual only [c4, d4, n1, n2, ↓wA, wC, Ex.ends, evR, oneOf, top, ↓reduceIte, Nat.reduceEqDiff, Nat.reduceLeDiff, Nat.reduceAdd, Nat.reduceSub, Nat.reduceMul, reduceCtorEq, Int.reduceEq, Int.reduceLT, Int.reduceLE, Int.reduceNeg]
          refine callK_intro (tagged_ctr c _ g4 (H.ext s4) h1 h2) ?_
          rintro x g5 ⟨rfl, hx5⟩
          obtain ⟨k5, c5, d5⟩ := keep g4 g5 hx5 ⟨by have := k3; have := g4n; omega, c4, d4⟩
          have s5 := (s4).trans hx5
          cases htg : taggedP c with
          | false =>
            have hf : ownP b c = false := by rw [hO]; grind
            simp +contextual only [c5, d5, n1, n2, hf, ↓wA, wC, Ex.ends, evR, oneOf, top, ↓reduceIte, Nat.reduceEqDiff, Nat.reduceLeDiff, Nat.reduceAdd, Nat.reduceSub, Nat.reduceMul, reduceCtorEq, Int.reduceEq, Int.reduceLT, Int.reduceLE, Int.reduceNeg]
            exact s5
          | true =>
            simp +contextual only [c5, d5, n1, n2, ↓wA, wC, Ex.ends, evR, oneOf, top, ↓reduceIte, Nat.reduceEqDiff, Nat.reduceLeDiff, Nat.reduceAdd, Nat.reduceSub, Nat.reduceMul, reduceCtorEq, Int.reduceEq, Int.reduceLT, Int.reduceLE, Int.reduceNeg]
            refine callK_intro (contains_atom_ctr c.a va g5 (Ha.ext s5) (by omega)) ?_
            rintro x g6 ⟨rfl, hx6⟩
            have hf : ownP b c = c.a.all atB := by rw [hO]; grind
            simp +contextual only [hf, Bool.not_not, ↓wA, wC, Ex.ends, evR, oneOf, top, ↓reduceIte, Nat.reduceEqDiff, Nat.reduceLeDiff, Nat.reduceAdd, Nat.reduceSub, Nat.reduceMul, reduceCtorEq, Int.reduceEq, Int.reduceLT, Int.reduceLE, Int.reduceNeg]
            exact s5.trans hx6
      · have hta' := eq_false hta
        have hf : ownP b c = false := by rw [hO]; grind
        simp +contextual only [c3, d3, c4, d4, n1, n2, hk3', hk5', hA3, hA4, lk, hta', hf, askg_look, ↓wA, wC, Ex.ends, evR, oneOf, top, ↓reduceIte, Nat.reduceEqDiff, Nat.reduceLeDiff, Nat.reduceAdd, Nat.reduceSub, Nat.reduceMul, reduceCtorEq, Int.reduceEq, Int.reduceLT, Int.reduceLE, Int.reduceNeg]
        exact s4
    · have hk3' := eq_false hk3
      have g3n := hx3.next
      simp +contextual only [c3, d3, n1, n2, w3, hk3', hA3, askg_look, ↓wA, wC, Ex.ends, evR, oneOf, top, ↓reduceIte, Nat.reduceEqDiff, Nat.reduceLeDiff, Nat.reduceAdd, Nat.reduceSub, Nat.reduceMul, reduceCtorEq, Int.reduceEq, Int.reduceLT, Int.reduceLE, Int.reduceNeg]
      cases rt with
      | false =>
        simp +contextual only [c3, d3, n1, n2, ↓wA, wC, Ex.ends, evR, oneOf, top, ↓reduceIte, Nat.reduceEqDiff, Nat.reduceLeDiff, Nat.reduceAdd, Nat.reduceSub, Nat.reduceMul, reduceCtorEq, Int.reduceEq, Int.reduceLT, Int.reduceLE, Int.reduceNeg]
        refine callK_intro (contains_atom_ctr c.a va g3 (Ha.ext s3) (by omega)) ?_
        rintro x g5 ⟨rfl, hx5⟩
        have hf : ownP b c = c.a.all atB := by rw [hO]; grind
        simp +contextual only [hf, Bool.not_not, ↓wA, wC, Ex.ends, evR, oneOf, top, ↓reduceIte, Nat.reduceEqDiff, Nat.reduceLeDiff, Nat.reduceAdd, Nat.reduceSub, Nat.reduceMul, reduceCtorEq, Int.reduceEq, Int.reduceLT, Int.reduceLE, Int.reduceNeg]
        exact (s3).trans hx5
      | true =>
        simp +contextual only [c3, d3, n1, n2, ↓wA, wC, Ex.ends, evR, oneOf, top, ↓reduceIte, Nat.reduceEqDiff, Nat.reduceLeDiff, Nat.reduceAdd, Nat.reduceSub, Nat.reduceMul, reduceCtorEq, Int.reduceEq, Int.reduceLT, Int.reduceLE, Int.reduceNeg]
        refine callK_intro (tagged_ctr c _ g3 (H.ext s3) h1 h2) ?_
        rintro x g5 ⟨rfl, hx5⟩
        obtain ⟨k5, c5, d5⟩ := keep g3 g5 hx5 ⟨by have := k3; have := g3n; omega, c3, d3⟩
        have s5 := (s3).trans hx5
        cases htg : taggedP c with
        | false =>
          have hf : ownP b c = false := by rw [hO]; grind
          simp +contextual only [c5, d5, n1, n2, hf, ↓wA, wC, Ex.ends, evR, oneOf, top, ↓reduceIte, Nat.reduceEqDiff, Nat.reduceLeDiff, Nat.reduceAdd, Nat.reduceSub, Nat.reduceMul, reduceCtorEq, Int.reduceEq, Int.reduceLT, Int.reduceLE, Int.reduceNeg]
          exact s5
        | true =>
          simp +contextual only [c5, d5, n1, n2, ↓wA, wC, Ex.ends, evR, oneOf, top, ↓reduceIte, Nat.reduceEqDiff, Nat.reduceLeDiff, Nat.reduceAdd, Nat.reduceSub, Nat.reduceMul, reduceCtorEq, Int.reduceEq, Int.reduceLT, Int.reduceLE, Int.reduceNeg]
          refine callK_intro (contains_atom_ctr c.a va g5 (Ha.ext s5) (by omega)) ?_
          rintro x g6 ⟨rfl, hx6⟩
          have hf : ownP b c = c.a.all atB := by rw [hO]; grind
          simp +contextual only [hf, Bool.not_not, ↓wA, wC, Ex.ends, evR, oneOf, top, ↓reduceIte, Nat.reduceEqDiff, Nat.reduceLeDiff, Nat.reduceAdd, Nat.reduceSub, Nat.reduceMul, reduceCtorEq, Int.reduceEq, Int.reduceLT, Int.reduceLE, Int.reduceNeg]
          exact s5.trans hx6
end Go.Proofs.YtjbiefneffiogaaGreat

namespace Go.Proofs.YtjbiefneffiogaaGreat
open Go Am
theorem not1_ctr {c : Co} {u : List V} {g : Heap} {r : Bool} (H : CoIn g c u) (hc : ∀ g', Ext g g' → Ctr Tryz.prog 44 [.agg u] g' fun x h' => x = .bool r ∧ Ext g' h') : Ctr Tryz.prog 63 [.agg u] g fun x h' => x = .bool (!r) ∧ Ext g h' := by
  refine c63_ctr rfl (wpK_of ?_)
  unfold c63
  obtain ⟨va, vt, vl, rfl, _⟩ := H.open
  simp +contextual only [↓wA, wC, Ex.ends, evR, oneOf, top, ↓reduceIte, Nat.reduceEqDiff, Nat.reduceLeDiff, Nat.reduceAdd, Nat.reduceSub, Nat.reduceMul, reduceCtorEq, Int.reduceEq, Int.reduceLT, Int.reduceLE, Int.reduceNeg]
  have e0 := (Ext.refl g).new (.ofL [.int .i64 c.k, .int .i64 c.x, .int .i64 c.n, .str c.s, va, vt, vl] 0 false)
  refine callK_intro (hc _ e0) ?_
  rintro x h1 ⟨rfl, hx1⟩
  simp +contextual only [↓wA, wC, Ex.ends, evR, oneOf, top, ↓reduceIte, Nat.reduceEqDiff, Nat.reduceLeDiff, Nat.reduceAdd, Nat.reduceSub, Nat.reduceMul, reduceCtorEq, Int.reduceEq, Int.reduceLT, Int.reduceLE, Int.reduceNeg]
  exact e0.trans hx1
theorem index_co_ctr (l : List Co) (v : V) (h : Heap) (H : CosIn h l v) (hl : l.length ≤ 4611686018427387904)
    (hc : ∀ (i : Nat) (c : Co) (g : Heap) (u : List V), l[i]? = some c → Ext h g → CoIn g c u → Ctr Tryz.prog 44 [.agg u] g fun x h' => x = .bool (may ownP c) ∧ Ext g h') :
    Ctr Tryz.prog 127 [v, .func 63 []] h fun x h' => (∃ i : Int, x = .int .i64 i ∧ decide (0 ≤ i) = !mays ownP l) ∧ Ext h h' := by
  refine c127_ctr rfl (wpK_of ?_)
  unfold c127
  simp +contextual only [H.len, ↓wA, wC, Ex.ends, evR, oneOf, top, ↓reduceIte, Nat.reduceEqDiff, Nat.reduceLeDiff, Nat.reduceAdd, Nat.reduceSub, Nat.reduceMul, reduceCtorEq, Int.reduceEq, Int.reduceLT, Int.reduceLE, Int.reduceNeg]
  refine loopK_intro (fun r h' => Ext h h' ∧ r 0 = v ∧ r 1 = .func 63 [] ∧ r 7 = .int .i64 l.length ∧ ∃ i : Nat, r 8 = .int .i64 i ∧ i ≤ l.length ∧ mays ownP l = mays ownP (l.drop i)) (fun r h' => l.length - (r 8).toN) ?_ ?_
  · exact ⟨Ext.refl h, by simp only [↓wA, wC, ↓reduceIte, Nat.reduceEqDiff, reduceCtorEq], by simp only [↓wA, wC, ↓reduceIte, Nat.reduceEqDiff, reduceCtorEq], by simp only [↓wA, wC, ↓reduceIte, Nat.reduceEqDiff, reduceCtorEq], 0, by simp only [↓wA, wC, ↓reduceIte, Nat.reduceEqDiff, reduceCtorEq] <;> rfl, by omega, rfl⟩
  · rintro r h' ⟨hx, r0, r1, r7, i, r8, hi, hok⟩
    unfold c127l1
    by_cases hlt : i < l.length
    · have g0 : ((i : Int) < (l.length : Int)) = True := eq_true (by omega)
      obtain ⟨b, o, u, ia, hu, ld, _⟩ := (H.ext hx).at (k := .i64) hlt
      rw [List.drop_eq_getElem_cons hlt, mays] at hok
      have w := w_inc hlt hl
      simp +contextual only [r0, r1, r7, r8, g0, ia, ld, ↓wA, wC, Ex.ends, evR, oneOf, top, ↓reduceIte, Nat.reduceEqDiff, Nat.reduceLeDiff, Nat.reduceAdd, Nat.reduceSub, Nat.reduceMul, reduceCtorEq, Int.reduceEq, Int.reduceLT, Int.reduceLE, Int.reduceNeg]
      refine callK_intro (not1_ctr hu fun g' hg => hc i l[i] g' u (List.getElem?_eq_getElem hlt) (hx.trans hg) (hu.ext hg)) ?_
      rintro x h1 ⟨rfl, hx1⟩
      cases ha : may ownP l[i] with
      | true =>
        simp +contextual only [r0, r1, r7, r8, w, ↓wA, wC, Ex.ends, evR, oneOf, top, ↓reduceIte, Nat.reduceEqDiff, Nat.reduceLeDiff, Nat.reduceAdd, Nat.reduceSub, Nat.reduceMul, reduceCtorEq, Int.reduceEq, Int.reduceLT, Int.reduceLE, Int.reduceNeg]
        exact ⟨⟨hx.trans hx1, ⟨i + 1, rfl, hlt, by rw [hok, ha, Bool.true_and]⟩⟩, by omega⟩
      | false =>
        simp +contextual only [r0, r1, r7, r8, w, ↓wA, wC, Ex.ends, evR, oneOf, top, ↓reduceIte, Nat.reduceEqDiff, Nat.reduceLeDiff, Nat.reduceAdd, Nat.reduceSub, Nat.reduceMul, reduceCtorEq, Int.reduceEq, Int.reduceLT, Int.reduceLE, Int.reduceNeg]
        refine ⟨⟨i, rfl, ?_⟩, hx.trans hx1⟩
        rw [hok, ha]
        simp
    · have g0 : ((i : Int) < (l.length : Int)) = False := eq_false (by omega)
      rw [List.drop_eq_nil_of_le (by omega)] at hok
      simp +contextual only [r0, r1, r7, r8, g0, ↓wA, wC, Ex.ends, evR, oneOf, top, ↓reduceIte, Nat.reduceEqDiff, Nat.reduceLeDiff, Nat.reduceAdd, Nat.reduceSub, Nat.reduceMul, reduceCtorEq, Int.reduceEq, Int.reduceLT, Int.reduceLE, Int.reduceNeg]
      exact ⟨⟨-1, rfl, by rw [hok]; rfl⟩, hx⟩
theorem contains_co_ctr (l : List Co) (v : V) (h : Heap) (H : CosIn h l v) (hl : l.length ≤ 4611686018427387904)
    (hc : ∀ (i : Nat) (c : Co) (g : Heap) (u : List V), l[i]? = some c → Ext h g → CoIn g c u → Ctr Tryz.prog 44 [.agg u] g fun x h' => x = .bool (may ownP c) ∧ Ext g h') :
    Ctr Tryz.prog 62 [v, .func 63 []] h fun x h' => x = .bool (!mays ownP l) ∧ Ext h h' := by
  refine c62_ctr rfl (wpK_of ?_)
  unfold c62
  simp +contextual only [↓wA, wC, Ex.ends, evR, oneOf, top, ↓reduceIte, Nat.reduceEqDiff, Nat.reduceLeDiff, Nat.reduceAdd, Nat.reduceSub, Nat.reduceMul, reduceCtorEq, Int.reduceEq, Int.reduceLT, Int.reduceLE, Int.reduceNeg]
  refine callK_intro (index_co_ctr l v h H hl hc) ?_
  rintro x h1 ⟨⟨i, rfl, hi⟩, hx1⟩
  simp +contextual only [hi, ↓wA, wC, Ex.ends, evR, oneOf, top, ↓reduceIte, Nat.reduceEqDiff, Nat.reduceLeDiff, Nat.reduceAdd, Nat.reduceSub, Nat.reduceMul, reduceCtorEq, Int.reduceEq, Int.reduceLT, Int.reduceLE, Int.reduceNeg]
  exact hx1
end Go.Proofs.YtjbiefneffiogaaGreat

namespace Go.Proofs.YtjbiefneffiogaaGreat
open Go Am
mutual
def fit (m : Nat) : Co → Prop
  | .mk k x n s a t l => s.length ≤ m ∧ a.length ≤ m ∧ t.length ≤ m ∧ l.length ≤ m ∧ (∀ q ∈ a, q.s.length ≤ m) ∧ fits m l
def fits (m : Nat) : List Co → Prop
  | [] => True
  | c :: cs => fit m c ∧ fits m cs
end
theorem fits_at {m : Nat} : ∀ {l : List Co} {i : Nat} {c : Co}, fits m l → l[i]? = some c → fit m c
  | [], _, _, _, h => by simp at h
  | d :: l, 0, c, hf, h => by simp only [List.getElem?_cons_zero, Option.some.injEq] at h; subst h; exact hf.1
  | d :: l, i + 1, c, hf, h => fits_at hf.2 (by simpa using h)
theorem fit.kids {m : Nat} {c : Co} (h : fit m c) : c.s.length ≤ m ∧ c.a.length ≤ m ∧ c.t.length ≤ m ∧ c.l.length ≤ m ∧ fits m c.l := by
  cases c
  exact ⟨h.1, h.2.1, h.2.2.1, h.2.2.2.1, h.2.2.2.2.2⟩
mutual
theorem few_of_fit {m k : Nat} (hm : m ≤ k) : ∀ c : Co, fit m c → few k c
  | .mk _ _ _ _ _ _ l, h => ⟨Nat.le_trans h.2.2.2.1 hm, fews_of_fits hm l h.2.2.2.2.2⟩
theorem fews_of_fits {m k : Nat} (hm : m ≤ k) : ∀ l : List Co, fits m l → fews k l
  | [], _ => trivial
  | c :: cs, h => ⟨few_of_fit hm c h.1, fews_of_fits hm cs h.2⟩
end
theorem size_idx {l : List Co} {i : Nat} {c : Co} (h : l[i]? = some c) : size c ≤ sizes l := size_mem (List.mem_of_getElem? h)
theorem size_l (c : Co) : size c = 1 + sizes c.l := by cases c; rfl
theorem own_kid {c : Co} (h7 : c.k = 7) (h : ownP true c = true) : c.l.length = 1 := by
  have : ownR true c = true := by rw [← own_named, h, decide_eq_true h7]; rfl
  simp only [ownR, if_true, funR, Bool.and_eq_true] at this
  exact of_decide_eq_true this.2
theorem mayKid_eq (c : Co) (h : 0 < c.l.length) : mayKid ownP c = may ownP c.l[0] := by
  obtain ⟨k, x, n, s, a, t, l⟩ := c
  cases l with
  | nil => simp [Co.l] at h
  | cons d l => simp only [mayKid, mayHead, Co.l, List.getElem_cons_zero]
theorem may_ne8 {own : Bool → Co → Bool} {c : Co} (h : c.k ≠ 8) : may own c = (own false c && mays own c.l) := by
  obtain ⟨k, x, n, s, a, t, l⟩ := c
  simp only [Co.k] at h
  rw [may, if_neg h]
  rfl
theorem may_8 {own : Bool → Co → Bool} {c : Co} (h : c.k = 8) : may own c = (bareB c && decide (2 ≤ c.l.length) && mayRec own c.l) := by
  obtain ⟨k, x, n, s, a, t, l⟩ := c
  simp only [Co.k] at h
  rw [may, if_pos h]
  rfl
theorem mayRec_drop {own : Bool → Co → Bool} {l : List Co} {i : Nat} (h : i + 1 < l.length) : mayRec own (l.drop i) = ((decide (l[i].k = 7) && own true l[i]) && mayKid own l[i] && mayRec own (l.drop (i + 1))) := by
  rw [List.drop_eq_getElem_cons (by omega), List.drop_eq_getElem_cons h]
  rw [mayRec]
theorem mayRec_last {own : Bool → Co → Bool} {l : List Co} {i : Nat} (h : i + 1 = l.length) : mayRec own (l.drop i) = may own (l[i]'(by omega)) := by
  rw [List.drop_eq_getElem_cons (by omega), List.drop_eq_nil_of_le (by omega)]
  rw [mayRec]
set_option maxHeartbeats 2000000 in
theorem may_ctr : ∀ (N : Nat) (c : Co), size c ≤ N → fit 1048576 c → ∀ (vs : List V) (h : Heap), CoIn h c vs → Ctr Tryz.prog 44 [.agg vs] h fun x h' => x = .bool (may ownP c) ∧ Ext h h'
  | 0, c, hs, _, _, _, _ => by have := size_pos c; omega
  | N + 1, c, hs, hf, vs, h, H => by
    obtain ⟨f1, f2, f3, f4, f5⟩ := hf.kids
    have hsl := size_l c
    have kid : ∀ (i : Nat) (d : Co) (g : Heap) (u : List V), c.l[i]? = some d → Ext h g → CoIn g d u → Ctr Tryz.prog 44 [.agg u] g fun x h' => x = .bool (may ownP d) ∧ Ext g h' :=
      fun i d g u hi hg hu => may_ctr N d (by have := size_idx hi; omega) (fits_at f5 hi) u g hu
    obtain ⟨va, vt, vl, rfl, Ha, Ht, Hl⟩ := H.open
    refine c44_ctr rfl (wpK_of ?_)
    unfold c44
    have e0 : Ext h (h.new (.ofL [.int .i64 c.k, .int .i64 c.x, .int .i64 c.n, .str c.s, va, vt, vl] 0 false)) := (Ext.refl h).new _
    by_cases hk : c.k = 8
    · have hk' := eq_true hk
      have hA := (Ha.ext e0).len
      have hT := (Ht.ext e0).len
      have hL := (Hl.ext e0).len
      have hM := may_8 (own := ownP) hk
      by_cases hl0 : c.l.length = 0
      · have hf : may ownP c = false := by rw [hM, hl0]; simp
        have w0 : IntKind.i64.wrap (((0 : Nat) : Int) - 1) = -1 := by rw [wrap_i64 (by omega) (by omega)]; rfl
        have t0 : ((-1 : Int) < 1) = True := eq_true (by decide)
        rw [hl0] at hL
        simp +contextual only [hk', hA, hT, hL, w0, t0, hf, Bool.or_true, ↓wA, wC, Ex.ends, evR, oneOf, top, ↓reduceIte, Nat.reduceEqDiff, Nat.reduceLeDiff, Nat.reduceAdd, Nat.reduceSub, Nat.reduceMul, reduceCtorEq, Int.reduceEq, Int.reduceLT, Int.reduceLE, Int.reduceNeg]
        exact e0
      have w0 : IntKind.i64.wrap ((c.l.length : Int) - 1) = ((c.l.length - 1 : Nat) : Int) := by rw [wrap_i64 (by omega) (by omega)]; omega
      cases hbad : (!decide (c.x = 0) || !decide (c.n = 0) || !decide (c.s = []) || decide (0 < (c.t.length : Int)) || decide (0 < (c.a.length : Int)) || decide (((c.l.length - 1 : Nat) : Int) < 1)) with
      | true =>
        have hf : may ownP c = false := by
          rw [hM]
          have e1 : (c.t = []) ↔ c.t.length = 0 := by rw [List.length_eq_zero_iff]
          have e2 : (c.a = []) ↔ c.a.length = 0 := by rw [List.length_eq_zero_iff]
          simp only [bareB]
          grind
        simp +contextual only [hk', hA, hT, hL, w0, hbad, hf, ↓wA, wC, Ex.ends, evR, oneOf, top, ↓reduceIte, Nat.reduceEqDiff, Nat.reduceLeDiff, Nat.reduceAdd, Nat.reduceSub, Nat.reduceMul, reduceCtorEq, Int.reduceEq, Int.reduceLT, Int.reduceLE, Int.reduceNeg]
        exact e0
      | false =>
        have hgood : may ownP c = mayRec ownP c.l := by
          rw [hM]
          have e1 : (c.t = []) ↔ c.t.length = 0 := by rw [List.length_eq_zero_iff]
          have e2 : (c.a = []) ↔ c.a.length = 0 := by rw [List.length_eq_zero_iff]
          simp only [bareB]
          grind
        have hlen : 2 ≤ c.l.length := by
          have : ¬ (((c.l.length - 1 : Nat) : Int) < 1) := by
            intro q
            rw [decide_eq_true q, Bool.or_true] at hbad
            cases hbad
          omega
        obtain ⟨v', cut1, cut2⟩ := (Hl.ext e0).cut (k := .i64) (m := c.l.length - 1) (by omega)
        have hL' := cut2.len
        rw [List.length_take, Nat.min_eq_left (Nat.sub_le _ _)] at hL'
        simp +contextual only [hk', hA, hT, hL, w0, hbad, cut1, hL', ↓wA, wC, Ex.ends, evR, oneOf, top, ↓reduceIte, Nat.reduceEqDiff, Nat.reduceLeDiff, Nat.reduceAdd, Nat.reduceSub, Nat.reduceMul, reduceCtorEq, Int.reduceEq, Int.reduceLT, Int.reduceLE, Int.reduceNeg]
        refine loopK_intro (fun r h' => Ext h h' ∧ h'.get (pa h.next) = .ofL [.int .i64 c.k, .int .i64 c.x, .int .i64 c.n, .str c.s, va, vt, vl] 0 false ∧ h.next < h'.next ∧ r 1 = .ptr (pa h.next) 0 ∧ r 3 = .int .i64 ((c.l.length - 1 : Nat) : Int) ∧ r 52 = v' ∧ r 53 = .int .i64 ((c.l.length - 1 : Nat) : Int) ∧
          ∃ i : Nat, r 54 = .int .i64 i ∧ i ≤ c.l.length - 1 ∧ mayRec ownP c.l = mayRec ownP (c.l.drop i)) (fun r h' => c.l.length - (r 54).toN) ?_ ?_
        · exact ⟨e0, by simp only [↓wA, wC, ↓reduceIte, Nat.reduceEqDiff, reduceCtorEq], by rw [next_new]; omega, by simp only [↓wA, wC, ↓reduceIte, Nat.reduceEqDiff, reduceCtorEq], by simp only [↓wA, wC, ↓reduceIte, Nat.reduceEqDiff, reduceCtorEq], by simp only [↓wA, wC, ↓reduceIte, Nat.reduceEqDiff, reduceCtorEq], by simp only [↓wA, wC, ↓reduceIte, Nat.reduceEqDiff, reduceCtorEq], 0, by simp only [↓wA, wC, ↓reduceIte, Nat.reduceEqDiff, reduceCtorEq] <;> rfl, by omega, rfl⟩
        · rintro r h' ⟨hx, hb, hn, r1, r3, r52, r53, i, r54, hi, hok⟩
          unfold c44l1
          by_cases hlt : i < c.l.length - 1
          · have g0 : ((i : Int) < ((c.l.length - 1 : Nat) : Int)) = True := eq_true (by omega)
            have hlt2 : i < c.l.length := by omega
            have hlt3 : i < (c.l.take (c.l.length - 1)).length := by rw [List.length_take]; omega
            have e0x : Ext (h.new (.ofL [.int .i64 c.k, .int .i64 c.x, .int .i64 c.n, .str c.s, va, vt, vl] 0 false)) h' := ⟨by rw [next_new]; omega, fun b hb' => by
              by_cases q : b = pa h.next
              · subst q; rw [hb, get_new_self]
              · have ho : Old h b := by
                  unfold Old at hb' ⊢
                  rw [next_new] at hb'
                  have : unPa b ≠ h.next := fun e => q (by rw [← e, pa_unPa])
                  omega
                rw [hx.get _ ho, get_new, if_neg (fun e => q e.symm)]⟩
            obtain ⟨b, o, u, ia, hu, ld, _⟩ := (cut2.ext e0x).at (k := .i64) hlt3
            rw [List.getElem_take] at hu
            rw [mayRec_drop (by omega)] at hok
            generalize hfd : c.l[i] = f at *
            have hfi : c.l[i]? = some f := by rw [List.getElem?_eq_getElem hlt2, hfd]
            obtain ⟨fa, ft, fl, rfl, Fa, Ft, Fl⟩ := hu.open
            have w := w_inc hlt2 (by omega)
            have ff := fits_at f5 hfi
            obtain ⟨ff1, ff2, ff3, ff4, ff5⟩ := ff.kids
            have o1 := Fa.one.1
            have o2 := Ft.one.1
            have o3 := Fl.one.1
            have nn1 : (h'.next = h.next) = False := eq_false (by omega)
            have nn2 : (h.next = h'.next) = False := eq_false (by omega)
            by_cases h7 : f.k = 7
            · have h7' := eq_true h7
              simp +contextual only [r1, r3, r52, r53, r54, g0, ia, ld, h7', o1, o2, o3, Bool.and_self, ↓wA, wC, Ex.ends, evR, oneOf, top, ↓reduceIte, Nat.reduceEqDiff, Nat.reduceLeDiff, Nat.reduceAdd, Nat.reduceSub, Nat.reduceMul, reduceCtorEq, Int.reduceEq, Int.reduceLT, Int.reduceLE, Int.reduceNeg]
              have hx1 : Ext h' ((h'.new (.ofL [.int .i64 0, .int .i64 0, .int .i64 0, .str [], .nilslice, .nilslice, .nilslice] 0 false)).set (pa h'.next) (.ofL [.int .i64 f.k, .int .i64 f.x, .int .i64 f.n, .str f.s, fa, ft, fl] 0 false)) := ((Ext.refl h').new _).set (Nat.le_refl _) _
              have gb : ((h'.new (.ofL [.int .i64 0, .int .i64 0, .int .i64 0, .str [], .nilslice, .nilslice, .nilslice] 0 false)).set (pa h'.next) (.ofL [.int .i64 f.k, .int .i64 f.x, .int .i64 f.n, .str f.s, fa, ft, fl] 0 false)).get (pa h'.next) = .ofL [.int .i64 f.k, .int .i64 f.x, .int .i64 f.n, .str f.s, fa, ft, fl] 0 false := by rw [get_set, if_pos rfl]
              have gn : ((h'.new (.ofL [.int .i64 0, .int .i64 0, .int .i64 0, .str [], .nilslice, .nilslice, .nilslice] 0 false)).set (pa h'.next) (.ofL [.int .i64 f.k, .int .i64 f.x, .int .i64 f.n, .str f.s, fa, ft, fl] 0 false)).next = h'.next + 1 := by rw [next_set, next_new]
              generalize ((h'.new (.ofL [.int .i64 0, .int .i64 0, .int .i64 0, .str [], .nilslice, .nilslice, .nilslice] 0 false)).set (pa h'.next) (.ofL [.int .i64 f.k, .int .i64 f.x, .int .i64 f.n, .str f.s, fa, ft, fl] 0 false)) = G1 at *
              refine callK_intro (own_ctr true f _ G1 (hu.ext hx1) (by omega) (by omega) (by omega)) ?_
              rintro x g2 ⟨rfl, hx2⟩
              have hx12 := hx1.trans hx2
              have gb2 : g2.get (pa h'.next) = .ofL [.int .i64 f.k, .int .i64 f.x, .int .i64 f.n, .str f.s, fa, ft, fl] 0 false := by rw [hx2.get _ (old_lt (by omega))]; exact gb
              have hb2 : g2.get (pa h.next) = .ofL [.int .i64 c.k, .int .i64 c.x, .int .i64 c.n, .str c.s, va, vt, vl] 0 false := by rw [hx12.get _ (old_lt (by omega))]; exact hb
              cases ho : ownP true f with
              | false =>
                have hf0 : may ownP c = false := by rw [hgood, hok, ho, Bool.and_false, Bool.false_and, Bool.false_and]
                simp +contextual only [gb2, hf0, nn1, nn2, ↓wA, wC, Ex.ends, evR, oneOf, top, ↓reduceIte, Nat.reduceEqDiff, Nat.reduceLeDiff, Nat.reduceAdd, Nat.reduceSub, Nat.reduceMul, reduceCtorEq, Int.reduceEq, Int.reduceLT, Int.reduceLE, Int.reduceNeg]
                exact hx.trans hx12
              | true =>
                have hl1 := own_kid h7 ho
                obtain ⟨b', o', u', ia', hu', ld', _⟩ := (Fl.ext hx12).at (k := .i64) (i := 0) (by omega)
                have hg0 : f.l[0]? = some f.l[0] := List.getElem?_eq_getElem (by omega)
                have ia0 : iaV 7 fl (.int .i64 0) = some (.ptr b' o') := by simpa using ia'
                have ld0 : ldnB 7 (g2.get b') o' = some (.agg u') := by simpa using ld'
                simp +contextual only [gb2, nn1, nn2, ia0, ld0, ↓wA, wC, Ex.ends, evR, oneOf, top, ↓reduceIte, Nat.reduceEqDiff, Nat.reduceLeDiff, Nat.reduceAdd, Nat.reduceSub, Nat.reduceMul, reduceCtorEq, Int.reduceEq, Int.reduceLT, Int.reduceLE, Int.reduceNeg]
                refine callK_intro (may_ctr N f.l[0] (by have := size_idx hfi; have := size_idx hg0; have := size_l f; omega) (fits_at ff5 hg0) u' g2 hu') ?_
                rintro x g3 ⟨rfl, hx3⟩
                have hx13 := hx12.trans hx3
                rw [mayKid_eq f (by omega)] at hok
                cases hm : may ownP f.l[0] with
                | false =>
                  have hf0 : may ownP c = false := by rw [hgood, hok, hm, Bool.and_false, Bool.false_and]
                  simp +contextual only [hf0, ↓wA, wC, Ex.ends, evR, oneOf, top, ↓reduceIte, Nat.reduceEqDiff, Nat.reduceLeDiff, Nat.reduceAdd, Nat.reduceSub, Nat.reduceMul, reduceCtorEq, Int.reduceEq, Int.reduceLT, Int.reduceLE, Int.reduceNeg]
                  exact hx.trans hx13
                | true =>
                  simp +contextual only [r1, r3, r52, r53, r54, w, ↓wA, wC, Ex.ends, evR, oneOf, top, ↓reduceIte, Nat.reduceEqDiff, Nat.reduceLeDiff, Nat.reduceAdd, Nat.reduceSub, Nat.reduceMul, reduceCtorEq, Int.reduceEq, Int.reduceLT, Int.reduceLE, Int.reduceNeg]
                  exact ⟨⟨hx.trans hx13, by rw [hx13.get _ (old_lt (by omega))]; exact hb, by have := hx13.next; omega, ⟨i + 1, rfl, by omega, by rw [hok, decide_eq_true h7, ho, hm]; rfl⟩⟩, by omega⟩
            · have h7' := eq_false h7
              have hf0 : may ownP c = false := by rw [hgood, hok, decide_eq_false h7]; rfl
              simp +contextual only [r1, r3, r52, r53, r54, g0, ia, ld, h7', hf0, o1, o2, o3, Bool.and_self, ↓wA, wC, Ex.ends, evR, oneOf, top, ↓reduceIte, Nat.reduceEqDiff, Nat.reduceLeDiff, Nat.reduceAdd, Nat.reduceSub, Nat.reduceMul, reduceCtorEq, Int.reduceEq, Int.reduceLT, Int.reduceLE, Int.reduceNeg]
              exact (hx.new _).set (i := h'.next) (by have := hx.next; omega) _
          · have g0 : ((i : Int) < ((c.l.length - 1 : Nat) : Int)) = False := eq_false (by omega)
            obtain rfl : i = c.l.length - 1 := by omega
            obtain ⟨b, o, u, ia, hu, ld, _⟩ := (Hl.ext hx).at (k := .i64) (i := c.l.length - 1) (by omega)
            simp +contextual only [r1, r3, r52, r53, r54, g0, hb, ia, ld, ↓wA, wC, Ex.ends, evR, oneOf, top, ↓reduceIte, Nat.reduceEqDiff, Nat.reduceLeDiff, Nat.reduceAdd, Nat.reduceSub, Nat.reduceMul, reduceCtorEq, Int.reduceEq, Int.reduceLT, Int.reduceLE, Int.reduceNeg]
            refine callK_intro (kid (c.l.length - 1) _ h' u (List.getElem?_eq_getElem (by omega)) hx hu) ?_
            rintro x g2 ⟨rfl, hx2⟩
            have hf0 : may ownP c = may ownP (c.l[c.l.length - 1]'(by omega)) := by rw [hgood, hok, mayRec_last (by omega)]
            simp +contextual only [hf0, ↓wA, wC, Ex.ends, evR, oneOf, top, ↓reduceIte, Nat.reduceEqDiff, Nat.reduceLeDiff, Nat.reduceAdd, Nat.reduceSub, Nat.reduceMul, reduceCtorEq, Int.reduceEq, Int.reduceLT, Int.reduceLE, Int.reduceNeg]
            exact hx.trans hx2
    · have hk' := eq_false hk
      simp +contextual only [hk', ↓wA, wC, Ex.ends, evR, oneOf, top, ↓reduceIte, Nat.reduceEqDiff, Nat.reduceLeDiff, Nat.reduceAdd, Nat.reduceSub, Nat.reduceMul, reduceCtorEq, Int.reduceEq, Int.reduceLT, Int.reduceLE, Int.reduceNeg]
      refine callK_intro (own_ctr false c _ _ (H.ext e0) (by omega) (by omega) (by omega)) ?_
      rintro x g1 ⟨rfl, hx1⟩
      have hx := e0.trans hx1
      have hb : g1.get (pa h.next) = .ofL [.int .i64 c.k, .int .i64 c.x, .int .i64 c.n, .str c.s, va, vt, vl] 0 false := by rw [hx1.get _ (old_lt (by rw [next_new]; omega)), get_new_self]
      rw [may_ne8 hk]
      cases ho : ownP false c with
      | false =>
        simp +contextual only [Bool.false_and, ↓wA, wC, Ex.ends, evR, oneOf, top, ↓reduceIte, Nat.reduceEqDiff, Nat.reduceLeDiff, Nat.reduceAdd, Nat.reduceSub, Nat.reduceMul, reduceCtorEq, Int.reduceEq, Int.reduceLT, Int.reduceLE, Int.reduceNeg]
        exact hx
      | true =>
        simp +contextual only [hb, ↓wA, wC, Ex.ends, evR, oneOf, top, ↓reduceIte, Nat.reduceEqDiff, Nat.reduceLeDiff, Nat.reduceAdd, Nat.reduceSub, Nat.reduceMul, reduceCtorEq, Int.reduceEq, Int.reduceLT, Int.reduceLE, Int.reduceNeg]
        refine callK_intro (contains_co_ctr c.l vl g1 (Hl.ext hx) (by omega) fun i d g u hi hg hu => kid i d g u hi (hx.trans hg) hu) ?_
        rintro x g2 ⟨rfl, hx2⟩
        simp +contextual only [Bool.not_not, Bool.true_and, ↓wA, wC, Ex.ends, evR, oneOf, top, ↓reduceIte, Nat.reduceEqDiff, Nat.reduceLeDiff, Nat.reduceAdd, Nat.reduceSub, Nat.reduceMul, reduceCtorEq, Int.reduceEq, Int.reduceLT, Int.reduceLE, Int.reduceNeg]
        exact hx.trans hx2
end Go.Proofs.YtjbiefneffiogaaGreat

namespace Go.Proofs.YtjbiefneffiogaaGreat
theorem usedA_nil {b : List Int} {a : List At} : usedA b a = [] ↔ ∀ q ∈ a, q.k = 1 → q.n ∈ b := by
  unfold usedA
  rw [List.map_eq_nil_iff, List.filter_eq_nil_iff]
  constructor
  · intro h q hq hk
    have := h q hq
    simp only [hk, decide_true, Bool.true_and, Bool.not_eq_true', Bool.not_eq_false] at this
    simpa using this
  · intro h q hq
    by_cases hk : q.k = 1
    · have := h q hq hk
      simp [hk, this]
    · simp [hk]
mutual
theorem free_mono : ∀ (c : Co) {b b' : List Int}, (∀ z ∈ b, z ∈ b') → free c b = [] → free c b' = []
  | .mk k x n s a t l, b, b', hb, h => by
    simp only [free, List.append_eq_nil_iff] at h ⊢
    refine ⟨usedA_nil.2 fun q hq hk => hb _ (usedA_nil.1 h.1 q hq hk), frees_mono l (fun z hz => ?_) h.2⟩
    rcases List.mem_append.1 hz with r | r
    · exact List.mem_append.2 (.inl (hb z r))
    · exact List.mem_append.2 (.inr r)
theorem frees_mono : ∀ (l : List Co) {late : Bool} {x : Int} {b b' : List Int} {i : Nat}, (∀ z ∈ b, z ∈ b') → frees late x l b i = [] → frees late x l b' i = []
  | [], _, _, _, _, _, _, _ => rfl
  | c :: cs, late, x, b, b', i, hb, h => by
    simp only [frees, List.append_eq_nil_iff] at h ⊢
    refine ⟨free_mono c (fun z hz => ?_) h.1, frees_mono cs hb h.2⟩
    split at hz
    · rename_i q
      rw [if_pos q]
      rcases List.mem_append.1 hz with r | r
      · exact List.mem_append.2 (.inl (hb z r))
      · exact List.mem_append.2 (.inr r)
    · rename_i q
      rw [if_neg q]
      exact hb z hz
end
theorem frees_mem : ∀ {l : List Co} {x : Int} {b : List Int} {i : Nat}, frees false x l b i = [] → ∀ c ∈ l, free c b = []
  | [], _, _, _, _, c, hc => by cases hc
  | d :: l, x, b, i, h, c, hc => by
    simp only [frees, Bool.false_and, Bool.false_eq_true, if_false, List.append_eq_nil_iff] at h
    rcases List.mem_cons.1 hc with rfl | hc
    · exact h.1
    · exact frees_mem h.2 c hc
theorem mays_mem {own : Bool → Co → Bool} : ∀ {l : List Co}, mays own l = true → ∀ c ∈ l, may own c = true
  | [], _, c, hc => by cases hc
  | d :: l, h, c, hc => by
    simp only [mays, Bool.and_eq_true] at h
    rcases List.mem_cons.1 hc with rfl | hc
    · exact h.1
    · exact mays_mem h.2 c hc
theorem mayRec_mem {own : Bool → Co → Bool} : ∀ {l : List Co}, mayRec own l = true → (∀ f ∈ l.dropLast, f.k = 7 ∧ own true f = true ∧ mayKid own f = true) ∧ ∀ c ∈ l.getLast?, may own c = true
  | [], _ => ⟨fun f hf => (by cases hf), fun c hc => (by cases hc)⟩
  | [c], h => by
    simp only [mayRec] at h
    exact ⟨fun f hf => (by cases hf), fun d hd => (by simp at hd; subst hd; exact h)⟩
  | c :: d :: l, h => by
    have h' : ((decide (c.k = 7) && own true c) && mayKid own c && mayRec own (d :: l)) = true := by simpa only [mayRec] using h
    simp only [Bool.and_eq_true, decide_eq_true_eq] at h'
    obtain ⟨i1, i2⟩ := mayRec_mem (l := d :: l) h'.2
    refine ⟨fun f hf => ?_, fun e he => i2 e (by simpa using he)⟩
    rw [List.dropLast_cons_cons] at hf
    rcases List.mem_cons.1 hf with rfl | hf
    · exact ⟨h'.1.1.1, h'.1.1.2, h'.1.2⟩
    · exact i1 f hf
theorem fits_mem {m : Nat} : ∀ {l : List Co}, fits m l → ∀ c ∈ l, fit m c
  | [], _, c, hc => by cases hc
  | d :: l, h, c, hc => by
    rcases List.mem_cons.1 hc with rfl | hc
    · exact h.1
    · exact fits_mem h.2 c hc
theorem own_shape {c : Co} (h : ownR false c = true) : (c.k = 1 ∨ c.k = 2 ∨ c.k = 3 ∨ c.k = 4 ∨ c.k = 5 ∨ c.k = 6 ∨ c.k = 7 ∨ c.k = 9 ∨ c.k = 10 ∨ c.k = 11 ∨ c.k = 12) ∧ (c.a.all atB = true) ∧
    (c.k = 1 ∨ c.k = 5 ∨ c.k = 9 ∨ c.k = 10 ∨ c.k = 12 → (c.a.length : Int) = 1) ∧ (c.k = 6 → (c.a.length : Int) = 2) ∧ (c.k = 2 ∨ c.k = 11 → c.l.length = 2) ∧ (c.k = 3 → (c.a.length : Int) = takes c.s ∧ 0 < takes c.s) ∧
    (c.k = 5 → 0 ≤ c.n ∧ c.n ≤ 1048575) ∧ (c.k = 7 → c.l.length = 1) ∧ (c.k = 9 ∨ c.k = 10 → diff c.t = true) := by
  obtain ⟨k, x, n, s, a, t, l⟩ := c
  simp only [ownR, Bool.false_eq_true, if_false, OwnR, funR, Co.k, Co.x, Co.n, Co.s, Co.a, Co.t, Co.l, hasB, atomsB, fitsR, tagsB] at h ⊢
  by_cases h1 : k = 1
  · subst h1; simp at h ⊢; grind
  by_cases h2 : k = 2
  · subst h2; simp at h ⊢; grind
  by_cases h3 : k = 3
  · subst h3; simp at h ⊢; grind
  by_cases h4 : k = 4
  · subst h4; simp at h ⊢; grind
  by_cases h5 : k = 5
  · subst h5; simp at h ⊢; grind
  by_cases h6 : k = 6
  · subst h6; simp at h ⊢; grind
  by_cases h7 : k = 7
  · subst h7; simp at h ⊢; grind
  by_cases h9 : k = 9
  · subst h9; simp at h ⊢; grind
  by_cases h10 : k = 10
  · subst h10; simp at h ⊢; grind
  by_cases h11 : k = 11
  · subst h11; simp at h ⊢; grind
  by_cases h12 : k = 12
  · subst h12; simp at h ⊢; grind
  simp [h1, h2, h3, h4, h5, h6, h7, h9, h10, h11, h12] at h
structure WfC (b : List Int) (c : Co) : Prop where
  m_ : may (fun b c => ownR b c) c = true
  f_ : free c b = []
  t_ : fit 1048576 c
theorem WfC.mono {b b' : List Int} {c : Co} (H : WfC b c) (h : ∀ z ∈ b, z ∈ b') : WfC b' c := ⟨H.m_, free_mono c h H.f_, H.t_⟩
theorem own_true {c : Co} (h : ownR true c = true) : c.k = 7 ∧ c.l.length = 1 := by
  simp only [ownR, if_true, funR, Bool.and_eq_true] at h
  exact ⟨of_decide_eq_true h.1.1.1.1.1, of_decide_eq_true h.2⟩
theorem WfC.shape {b : List Int} {c : Co} (H : WfC b c) : Shape c ∧ (1 ≤ c.k ∧ c.k ≤ 12) ∧ ∀ a ∈ c.a, a.k = 1 → a.n ∈ b := by
  obtain ⟨h1, h2, h3⟩ := H
  obtain ⟨f1, f2, f3, f4, f5⟩ := h3.kids
  obtain ⟨k, x, n, s, a, t, l⟩ := c
  simp only [free, List.append_eq_nil_iff] at h2
  simp only [may] at h1
  by_cases hk : k = 8
  · subst hk
    rw [if_pos rfl] at h1
    simp only [Bool.and_eq_true, bareB, decide_eq_true_eq, Co.a, Co.t, Co.x, Co.n, Co.s] at h1
    obtain ⟨⟨⟨_, ha⟩, hl⟩, hr⟩ := h1
    obtain ⟨r1, r2⟩ := mayRec_mem hr
    refine ⟨⟨f2, f3, f4, fun q hq => ?_, by simp [Co.k], by simp [Co.k], by simp [Co.k], by simp [Co.k], by simp [Co.k], by simp [Co.k], fun _ => ⟨hl, fun f hf => (own_true (r1 f hf).2.1).2⟩, by simp [Co.k], by simp [Co.k]⟩, by simp [Co.k], usedA_nil.1 h2.1⟩
    have ha' : a = [] := of_decide_eq_true ha
    simp only [Co.a, ha'] at hq
    cases hq
  · rw [if_neg hk] at h1
    simp only [Bool.and_eq_true] at h1
    obtain ⟨o1, o2, o3, o4, o5, o6, o7, o8, o9⟩ := own_shape h1.1
    exact ⟨⟨f2, f3, f4, fun q hq => List.all_eq_true.1 o2 q hq, fun e => by have := o3 e; omega, fun e => by have := o4 e; omega, o5, o6, o7, o8, fun e => absurd e hk, o9, by omega⟩, by omega, usedA_nil.1 h2.1⟩
theorem WfC.kids {b : List Int} {c : Co} (H : WfC b c) : (c.k = 2 ∨ c.k = 11 → ∀ p q, c.l = [p, q] → WfC b p ∧ WfC (c.x :: b) q) ∧ (c.k = 7 → ∀ p, c.l = [p] → WfC (c.x :: b) p) ∧
    (c.k = 9 ∨ c.k = 10 → ∀ p ∈ c.l, WfC b p) ∧ (c.k = 8 → (∀ f ∈ c.l.dropLast, WfC (f.x :: (c.l.dropLast.map Co.n ++ b)) (f.l.headD f)) ∧ ∀ p ∈ c.l.getLast?, WfC (c.l.dropLast.map Co.n ++ b) p) := by
  obtain ⟨h1, h2, h3⟩ := H
  have f5 := h3.kids.2.2.2.2
  obtain ⟨k, x, n, s, a, t, l⟩ := c
  simp only [free, List.append_eq_nil_iff] at h2
  simp only [may] at h1
  simp only [Co.k, Co.l, Co.x] at f5 ⊢
  by_cases hk : k = 8
  · subst hk
    rw [if_pos rfl] at h1
    simp only [Bool.and_eq_true] at h1
    obtain ⟨r1, r2⟩ := mayRec_mem h1.2
    have hfr : ∀ c ∈ l, free c (b ++ l.dropLast.map Co.n) = [] := by
      have := h2.2
      simp only [lateB, ownNames] at this
      exact frees_mem (by simpa using this)
    refine ⟨by simp, by simp, by simp, fun _ => ⟨fun f hf => ?_, fun p hp => ?_⟩⟩
    · obtain ⟨q1, q2, q3⟩ := r1 f hf
      have hfl := (List.dropLast_sublist l).mem hf
      have g1 := hfr f hfl
      have g2 := (fits_mem f5 f hfl).kids.2.2.2.2
      have hl1 := (own_true q2).2
      obtain ⟨fk, fx, fn, fs, fa, ft, ffl⟩ := f
      simp only [Co.k, Co.l, Co.x] at q1 hl1 g2 ⊢
      subst q1
      match ffl, hl1 with
      | [p], _ =>
        simp only [mayKid, mayHead] at q3
        simp only [free, List.append_eq_nil_iff, frees, lateB, ownNames] at g1
        refine ⟨q3, free_mono p (fun z hz => ?_) g1.2.1, g2.1⟩
        simp at hz ⊢
        grind
    · have hpl : p ∈ l := List.mem_of_getLast? hp
      refine ⟨r2 p hp, free_mono p (fun z hz => ?_) (hfr p hpl), fits_mem f5 p hpl⟩
      simp at hz ⊢
      grind
  · rw [if_neg hk] at h1
    simp only [Bool.and_eq_true] at h1
    refine ⟨fun e p q hl => ?_, fun e p hl => ?_, fun e p hp => ?_, fun e => absurd e hk⟩
    · subst hl
      have hlate : lateB k = true := by simp only [lateB]; rcases e with rfl | rfl <;> rfl
      have hown : ownNames k x [p, q] = [] := by simp only [ownNames]; rcases e with rfl | rfl <;> rfl
      have := h2.2
      rw [hlate, hown] at this
      simp only [frees, List.append_eq_nil_iff] at this
      have hm := h1.2
      simp only [mays, Bool.and_eq_true] at hm
      refine ⟨⟨hm.1, free_mono p (fun z hz => ?_) this.1, f5.1⟩, ⟨hm.2.1, free_mono q (fun z hz => ?_) this.2.1, f5.2.1⟩⟩
      · simpa using hz
      · simp at hz ⊢; grind
    · subst hl
      subst e
      have := h2.2
      simp only [frees, List.append_eq_nil_iff, lateB, ownNames] at this
      have hm := h1.2
      simp only [mays, Bool.and_eq_true] at hm
      refine ⟨hm.1, free_mono p (fun z hz => ?_) this.1, f5.1⟩
      simp at hz ⊢; grind
    · have hlate : lateB k = false := by simp only [lateB]; rcases e with rfl | rfl <;> rfl
      have hown : ownNames k x l = [] := by simp only [ownNames]; rcases e with rfl | rfl <;> rfl
      have := h2.2
      rw [hlate, hown, List.append_nil] at this
      exact ⟨mays_mem h1.2 p hp, frees_mem this p hp, fits_mem f5 p hp⟩
end Go.Proofs.YtjbiefneffiogaaGreat

namespace Go.Proofs.YtjbiefneffiogaaGreat
def keys (e : En) : List Int := e.map Prod.fst
structure Wf (S : St) (n : Nat) (inpl : List UInt8) : Prop where
  c : WfC (keys S.e) S.c
  w : ∀ a ∈ S.w, WfC (a.x :: keys a.e) a.c
  fns : ∀ v ∈ S.st, ∀ x c e, v = .fn x c e → WfC (x :: keys e) c
  ints : ∀ v ∈ S.st, ∀ n, v = .int n → -1073741824 ≤ n ∧ n ≤ 1073741823
  texts : ∀ v ∈ S.st, ∀ s, v = .text s → s.length ≤ 4096
  wl : S.w.length ≤ n
  out : S.out.length ≤ 4096 * n
  read : S.read ≤ inpl.length
theorem wr_rng (n : Int) : -1073741824 ≤ wr n ∧ wr n ≤ 1073741823 := by unfold wr; omega
theorem St.val_mem {S : St} {j : Nat} : S.val j ∈ S.st ∨ S.val j = .int 0 := by
  unfold St.val
  by_cases h : j < S.st.length
  · rw [List.getD_eq_getElem?_getD, List.getElem?_eq_getElem h]; exact .inl (List.getElem_mem h)
  · rw [List.getD_eq_getElem?_getD, List.getElem?_eq_none (by omega)]; exact .inr rfl
section
variable {S : St} {n : Nat} {inpl : List UInt8}
theorem Wf.val_int (H : Wf S n inpl) {j : Nat} {m : Int} (h : S.val j = .int m) : -1073741824 ≤ m ∧ m ≤ 1073741823 := by
  rcases St.val_mem (S := S) (j := j) with q | q
  · exact H.ints _ q m h
  · rw [h] at q; cases q; omega
theorem Wf.val_text (H : Wf S n inpl) {j : Nat} {s : List UInt8} (h : S.val j = .text s) : s.length ≤ 4096 := by
  rcases St.val_mem (S := S) (j := j) with q | q
  · exact H.texts _ q s h
  · rw [h] at q; cases q
theorem Wf.val_fn (H : Wf S n inpl) {j : Nat} {x : Int} {c : Co} {e : En} (h : S.val j = .fn x c e) : WfC (x :: keys e) c := by
  rcases St.val_mem (S := S) (j := j) with q | q
  · exact H.fns _ q x c e h
  · rw [h] at q; cases q
theorem Wf.ok (H : Wf S n inpl) (hn : n ≤ 1000000) : Ok S := ⟨fun j m h => H.val_int h, fun j s h => H.val_text h, by have := H.wl; omega, by have := H.out; omega⟩
theorem Wf.up (H : Wf S n inpl) {m : Nat} (h : n ≤ m) : Wf S m inpl := ⟨H.c, H.w, H.fns, H.ints, H.texts, Nat.le_trans H.wl h, by have := H.out; omega, H.read⟩
def GoodV (v : PV) : Prop := (∀ x c e, v = .fn x c e → WfC (x :: keys e) c) ∧ (∀ n, v = .int n → -1073741824 ≤ n ∧ n ≤ 1073741823) ∧ ∀ s, v = .text s → s.length ≤ 4096
theorem good_int {m : Int} (h : -1073741824 ≤ m ∧ m ≤ 1073741823) : GoodV (.int m) := ⟨fun _ _ _ q => (by cases q), fun _ q => (by cases q; exact h), fun _ q => (by cases q)⟩
theorem good_text {s : List UInt8} (h : s.length ≤ 4096) : GoodV (.text s) := ⟨fun _ _ _ q => (by cases q), fun _ q => (by cases q), fun _ q => (by cases q; exact h)⟩
theorem good_thing (t : Int) (fs : List Nat) : GoodV (.thing t fs) := ⟨fun _ _ _ q => (by cases q), fun _ q => (by cases q), fun _ q => (by cases q)⟩
theorem good_fn {x : Int} {c : Co} {e : En} (h : WfC (x :: keys e) c) : GoodV (.fn x c e) := ⟨fun _ _ _ q => (by cases q; exact h), fun _ q => (by cases q), fun _ q => (by cases q)⟩
theorem Wf.mk_ (H : Wf S n inpl) {v : PV} (h : GoodV v) : Wf (S.mk_ v) n inpl := by
  refine ⟨H.c, H.w, fun u hu => ?_, fun u hu => ?_, fun u hu => ?_, H.wl, H.out, H.read⟩ <;> simp only [St.mk_, List.mem_append, List.mem_singleton] at hu <;> rcases hu with hu | rfl
  · exact H.fns u hu
  · exact h.1
  · exact H.ints u hu
  · exact h.2.1
  · exact H.texts u hu
  · exact h.2.2
theorem Wf.ends (H : Wf S n inpl) (how : Int) : Wf (S.ends how) n inpl := ⟨H.c, H.w, H.fns, H.ints, H.texts, H.wl, H.out, H.read⟩
theorem Wf.tells (H : Wf S n inpl) (j : Nat) : Wf (S.tells j) n inpl := by
  have key : ∀ w : List Wt, (∀ a ∈ w, a ∈ S.w) → w.length ≤ S.w.length → Wf (S.tellsL j w) n inpl := by
    intro w
    induction w with
    | nil => intro _ _; exact ⟨H.c, fun a ha => (by cases ha), H.fns, H.ints, H.texts, Nat.zero_le _, H.out, H.read⟩
    | cons a w ih =>
      intro hw hl
      simp only [List.length_cons] at hl
      simp only [St.tellsL]
      split
      · exact ih (fun b hb => hw b (by simp [hb])) (by omega)
      · exact ⟨H.w a (hw a (by simp)), fun b hb => H.w b (hw b (by simp [show b ∈ w from hb])), H.fns, H.ints, H.texts, by have := H.wl; simp only [St.goes]; omega, H.out, H.read⟩
  exact key S.w (fun _ h => h) (Nat.le_refl _)
theorem Wf.raises (H : Wf S n inpl) (j : Nat) : Wf (S.raises j) n inpl := by
  have key : ∀ w : List Wt, (∀ a ∈ w, a ∈ S.w) → w.length ≤ S.w.length → Wf (S.raisesL j w) n inpl := by
    intro w
    induction w with
    | nil =>
      intro _ _
      simp only [St.raisesL]
      split <;> exact ⟨H.c, fun a ha => (by cases ha), H.fns, H.ints, H.texts, Nat.zero_le _, H.out, H.read⟩
    | cons a w ih =>
      intro hw hl
      simp only [List.length_cons] at hl
      simp only [St.raisesL]
      split
      · exact ⟨H.w a (hw a (by simp)), fun b hb => H.w b (hw b (by simp [show b ∈ w from hb])), H.fns, H.ints, H.texts, by have := H.wl; simp only [St.goes]; omega, H.out, H.read⟩
      · exact ih (fun b hb => hw b (by simp [hb])) (by omega)
  exact key S.w (fun _ h => h) (Nat.le_refl _)
theorem Wf.tellsV (H : Wf S n inpl) {v : PV} (h : GoodV v) : Wf (S.tellsV v) n inpl := (H.mk_ h).tells _
theorem Wf.raisesV (H : Wf S n inpl) {v : PV} (h : GoodV v) : Wf (S.raisesV v) n inpl := (H.mk_ h).raises _
theorem Wf.out_ (H : Wf S n inpl) {o : List UInt8} (h : o.length ≤ 4096) : Wf { S with out := S.out ++ o } (n + 1) inpl :=
  ⟨H.c, H.w, H.fns, H.ints, H.texts, by have := H.wl; simp only; omega, by have := H.out; simp only [List.length_append]; omega, H.read⟩
theorem Wf.atoms (H : Wf S n inpl) (l : List At) (h : ∀ a ∈ l, atB a = true) : Wf (S.atoms l).1 n inpl := by
  have key : ∀ (l : List At) (p : St × List Nat), (∀ a ∈ l, atB a = true) → Wf p.1 n inpl → Wf (l.foldl St.atomsF p).1 n inpl := by
    intro l
    induction l with
    | nil => intro p _ h; exact h
    | cons a l ih =>
      intro p ha hp
      rw [List.foldl_cons]
      refine ih _ (fun b hb => ha b (by simp [hb])) ?_
      have hat := ha a (by simp)
      simp only [St.atomsF, St.atom]
      by_cases k1 : a.k = 1
      · rw [if_pos k1]; exact hp
      · rw [if_neg k1]
        by_cases k2 : a.k = 2
        · rw [if_pos k2]
          refine hp.mk_ (good_int ?_)
          simp only [atB, if_neg k1, if_pos k2, Bool.and_eq_true, numB, decide_eq_true_eq] at hat
          omega
        · rw [if_neg k2]
          refine hp.mk_ (good_text ?_)
          simp only [atB, if_neg k1, if_neg k2] at hat
          by_cases k3 : a.k = 3
          · rw [if_pos k3] at hat
            simp only [Bool.and_eq_true, decide_eq_true_eq] at hat
            omega
          · rw [if_neg k3] at hat; cases hat
  exact key l (S, []) h H
theorem ite_wf {p : Prop} [Decidable p] {A B : St} (h1 : Wf A n inpl) (h2 : Wf B n inpl) : Wf (if p then A else B) n inpl := by split <;> assumption
theorem Wf.prim (H : Wf S n inpl) (s : List UInt8) (js : List Nat) : Wf (S.prim inpl s js) (n + 1) inpl := by
  have U := H.up (Nat.le_succ n)
  have T := U.ends 6
  have num2 : ∀ k : Int → Int → St, (∀ a b, -1073741824 ≤ a ∧ a ≤ 1073741823 → -1073741824 ≤ b ∧ b ≤ 1073741823 → Wf (k a b) (n + 1) inpl) → Wf (S.num2 js k) (n + 1) inpl := by
    intro k hk
    simp only [St.num2]
    split
    · rename_i a b h1 h2; exact hk a b (H.val_int h1) (H.val_int h2)
    · exact T
  have num1 : ∀ k : Int → St, (∀ a, -1073741824 ≤ a ∧ a ≤ 1073741823 → Wf (k a) (n + 1) inpl) → Wf (S.num1 js k) (n + 1) inpl := by
    intro k hk
    simp only [St.num1]
    split
    · rename_i a h1; exact hk a (H.val_int h1)
    · exact T
  have text1 : ∀ k : List UInt8 → St, (∀ a, a.length ≤ 4096 → Wf (k a) (n + 1) inpl) → Wf (S.text1 js k) (n + 1) inpl := by
    intro k hk
    simp only [St.text1]
    split
    · rename_i a h1; exact hk a (H.val_text h1)
    · exact T
  unfold St.prim
  refine ite_wf (num2 _ fun a b _ _ => U.tellsV (good_int (wr_rng _))) ?_
  refine ite_wf (num2 _ fun a b _ _ => U.tellsV (good_int (wr_rng _))) ?_
  refine ite_wf (num2 _ fun a b _ _ => U.tellsV (good_int (wr_rng _))) ?_
  refine ite_wf (num2 _ fun a b _ _ => U.tellsV (good_thing _ _)) ?_
  refine ite_wf (num2 _ fun a b _ _ => U.tellsV (good_thing _ _)) ?_
  refine ite_wf (num2 _ fun a b _ _ => U.tellsV (good_thing _ _)) ?_
  refine ite_wf ?_ ?_
  · refine num2 _ fun a b _ _ => ?_
    split
    · exact U.raisesV (good_thing _ _)
    · exact U.tellsV (good_int (wr_rng _))
  refine ite_wf ?_ ?_
  · refine num2 _ fun a b _ _ => ?_
    split
    · exact U.raisesV (good_thing _ _)
    · exact U.tellsV (good_int (wr_rng _))
  refine ite_wf (num1 _ fun a _ => U.tellsV (good_int (wr_rng _))) ?_
  refine ite_wf ?_ ?_
  · unfold St.getc
    split
    · exact U.tellsV (good_int (by omega))
    · rename_i hr
      have V : Wf { S with read := S.read + 1 } (n + 1) inpl := ⟨U.c, U.w, U.fns, U.ints, U.texts, U.wl, U.out, by simp only; omega⟩
      refine V.tellsV (good_int ?_)
      have := (inpl[S.read]?.getD 0).toNat_lt
      omega
  refine ite_wf (num1 _ fun a _ => (H.out_ (by simp)).tellsV (good_thing _ _)) ?_
  refine ite_wf (text1 _ fun a ha => (H.out_ ha).tellsV (good_thing _ _)) ?_
  refine ite_wf (text1 _ fun a ha => U.tellsV (good_int (by omega))) ?_
  refine ite_wf (num1 _ fun a _ => U.tellsV (good_text (by simp))) ?_
  refine ite_wf ?_ ?_
  · unfold St.byteAt
    split
    · split
      · rename_i s i _ _ _
        refine U.tellsV (good_int ?_)
        have := (s[i.toNat]?.getD 0).toNat_lt
        omega
      · exact U.raisesV (good_thing _ _)
    · exact T
  refine ite_wf ?_ ?_
  · unfold St.cut
    split
    · split
      · rename_i s a b h1 _ _ _
        have := H.val_text h1
        refine U.tellsV (good_text ?_)
        rw [List.length_take, List.length_drop]
        omega
      · exact U.raisesV (good_thing _ _)
    · exact T
  refine ite_wf ?_ ?_
  · unfold St.join
    split
    · split
      · refine U.tellsV (good_text ?_)
        rw [List.length_append]; assumption
      · exact U.raisesV (good_thing _ _)
    · exact T
  refine ite_wf ?_ ?_
  · unfold St.set_
    split
    · split
      · have V : Wf { S with st := S.st.set (js.getD 0 0) (.thing 0 [js.getD 1 0]) } (n + 1) inpl := by
          refine ⟨U.c, U.w, fun u hu => ?_, fun u hu => ?_, fun u hu => ?_, U.wl, U.out, U.read⟩
          · rcases List.mem_or_eq_of_mem_set hu with q | rfl
            · exact U.fns u q
            · exact (good_thing _ _).1
          · rcases List.mem_or_eq_of_mem_set hu with q | rfl
            · exact U.ints u q
            · exact (good_thing _ _).2.1
          · rcases List.mem_or_eq_of_mem_set hu with q | rfl
            · exact U.texts u q
            · exact (good_thing _ _).2.2
        exact V.tellsV (good_thing _ _)
      · exact T
    · exact T
  exact U
theorem Wf.call (H : Wf S n inpl) (f v : Nat) : Wf (S.call f v) n inpl := by
  unfold St.call
  split
  · rename_i x c e h
    exact ⟨H.val_fn h, H.w, H.fns, H.ints, H.texts, H.wl, H.out, H.read⟩
  · exact H.ends 6
theorem Wf.get_ (H : Wf S n inpl) (m : Int) (j : Nat) : Wf (S.get_ m j) n inpl := by
  unfold St.get_
  split
  · split
    · exact H.ends 6
    · exact H.tells _
  · exact H.ends 6
theorem Wf.goto_ (H : Wf S n inpl) (h : ∀ p ∈ S.c.l, WfC (keys S.e) p) (i : Nat) : Wf (S.goto_ i) n inpl := by
  unfold St.goto_
  split
  · rename_i d hd
    exact ⟨h d (List.mem_of_getElem? hd), H.w, H.fns, H.ints, H.texts, H.wl, H.out, H.read⟩
  · exact H.ends 6
theorem Wf.chooses (H : Wf S n inpl) (h : ∀ p ∈ S.c.l, WfC (keys S.e) p) (b : Bool) (j : Nat) : Wf (S.chooses b j) n inpl := by
  unfold St.chooses
  split
  · split
    · exact H.ends 6
    · exact H.goto_ h _
  · split
    · exact H.goto_ h _
    · exact H.ends 6
  · exact H.ends 6
theorem recMk_keys (S : St) (l : List Co) : (∀ z, z ∈ keys (S.recMk l).e ↔ z ∈ l.map Co.n ∨ z ∈ keys S.e) := by
  induction l generalizing S with
  | nil => intro z; simp [St.recMk]
  | cons f l ih =>
    intro z
    have := ih (S.recF f) z
    show z ∈ keys ((S.recF f).recMk l).e ↔ _
    rw [this]
    simp only [St.recF, keys, List.map_cons, List.mem_cons]
    grind
theorem recMk_rest (S : St) (l : List Co) : (S.recMk l).w = S.w ∧ (S.recMk l).c = S.c ∧ (S.recMk l).out = S.out ∧ (S.recMk l).read = S.read ∧ (S.recMk l).st = S.st ++ l.map fun f => PV.fn f.x (f.l.headD f) [] := by
  induction l generalizing S with
  | nil => simp [St.recMk]
  | cons f l ih =>
    obtain ⟨a1, a2, a3, a4, a5⟩ := ih (S.recF f)
    refine ⟨a1, a2, a3, a4, ?_⟩
    show ((S.recF f).recMk l).st = _
    rw [a5]
    simp [St.recF, St.mk_]
theorem recSet_mem (e : En) : ∀ (l : List Co) (pre : List PV) (v : PV), v ∈ St.recSet e pre.length (pre ++ l.map fun f => PV.fn f.x (f.l.headD f) []) l → v ∈ pre ∨ ∃ f ∈ l, v = .fn f.x (f.l.headD f) e
  | [], pre, v, h => by simpa [St.recSet] using h
  | f :: l, pre, v, h => by
    rw [St.recSet, List.map_cons] at h
    have hs : (pre ++ PV.fn f.x (f.l.headD f) [] :: l.map fun f => PV.fn f.x (f.l.headD f) []).set pre.length (.fn f.x (f.l.headD f) e) = (pre ++ [.fn f.x (f.l.headD f) e]) ++ l.map fun f => PV.fn f.x (f.l.headD f) [] := by
      rw [List.set_append_right _ _ (Nat.le_refl _), Nat.sub_self]; simp
    have hl : pre.length + 1 = (pre ++ [PV.fn f.x (f.l.headD f) e]).length := by simp
    rw [hs, hl] at h
    rcases recSet_mem e l _ v h with q | ⟨g, hg, rfl⟩
    · simp only [List.mem_append, List.mem_singleton] at q
      rcases q with q | rfl
      · exact .inl q
      · exact .inr ⟨f, by simp, rfl⟩
    · exact .inr ⟨g, by simp [hg], rfl⟩
theorem Wf.rec_ (H : Wf S n inpl) (h8 : S.c.k = 8) (hl : S.c.l ≠ []) : Wf S.rec_ n inpl := by
  obtain ⟨k1, k2⟩ := H.c.kids.2.2.2 h8
  obtain ⟨r1, r2, r3, r4, r5⟩ := recMk_rest S S.c.l.dropLast
  have rk := recMk_keys S S.c.l.dropLast
  have hsub : ∀ z, z ∈ S.c.l.dropLast.map Co.n ++ keys S.e → z ∈ keys (S.recMk S.c.l.dropLast).e := fun z hz => (rk z).2 (List.mem_append.1 hz)
  have hmem : ∀ v ∈ St.recSet (S.recMk S.c.l.dropLast).e S.st.length (S.recMk S.c.l.dropLast).st S.c.l.dropLast, v ∈ S.st ∨ ∃ f ∈ S.c.l.dropLast, v = .fn f.x (f.l.headD f) (S.recMk S.c.l.dropLast).e := by
    intro v hv
    rw [r5] at hv
    exact recSet_mem _ _ _ v hv
  unfold St.rec_
  refine ⟨?_, by simp only [r1]; exact H.w, fun v hv => ?_, fun v hv => ?_, fun v hv => ?_, by simp only [r1]; exact H.wl, by simp only [r3]; exact H.out, by simp only [r4]; exact H.read⟩
  · have : S.c.l.getLastD S.c ∈ S.c.l.getLast? := by
      rw [List.getLastD_eq_getLast?]
      cases hq : S.c.l.getLast? with
      | none => exact absurd (List.getLast?_eq_none_iff.1 hq) hl
      | some d => simp
    exact (k2 _ this).mono hsub
  · rcases hmem v hv with q | ⟨f, hf, rfl⟩
    · exact H.fns v q
    · exact (good_fn ((k1 f hf).mono fun z hz => by
        rcases List.mem_cons.1 hz with rfl | hz
        · simp
        · exact List.mem_cons.2 (.inr (hsub z hz)))).1
  · rcases hmem v hv with q | ⟨f, hf, rfl⟩
    · exact H.ints v q
    · intro m q; cases q
  · rcases hmem v hv with q | ⟨f, hf, rfl⟩
    · exact H.texts v q
    · intro m q; cases q
theorem Wf.waits (H : Wf S n inpl) (h : S.c.k = 2 ∨ S.c.k = 11) : Wf S.waits (n + 1) inpl := by
  obtain ⟨sh, _, _⟩ := H.c.shape
  have hl := sh.l2 h
  obtain ⟨p, q, hpq⟩ : ∃ p q, S.c.l = [p, q] := by
    match hS : S.c.l, hl with
    | [p, q], _ => exact ⟨p, q, rfl⟩
  obtain ⟨k1, k2⟩ := H.c.kids.1 h p q hpq
  have e0 : S.kid 0 = p := by simp [St.kid, hpq]
  have e1 : S.kid 1 = q := by simp [St.kid, hpq]
  unfold St.waits
  refine ⟨by simp only [e0]; exact k1, fun a ha => ?_, H.fns, H.ints, H.texts, by have := H.wl; simp only [List.length_cons]; omega, by have := H.out; simp only; omega, H.read⟩
  rcases List.mem_cons.1 ha with rfl | ha
  · simp only [e1]; exact k2
  · exact H.w a ha
theorem Wf.step (H : Wf S n inpl) : Wf (S.step inpl) (n + 1) inpl := by
  obtain ⟨sh, hk, hv⟩ := H.c.shape
  have A := H.atoms S.c.a sh.at_
  obtain ⟨eE, eC, eW, eO, eR, eL⟩ := St.atoms_e S S.c.a
  unfold St.step
  generalize (S.atoms S.c.a).1 = T at *
  generalize (S.atoms S.c.a).2 = js at *
  have U := A.up (Nat.le_succ n)
  unfold St.does
  refine ite_wf (U.tells _) ?_
  by_cases h2 : T.c.k = 2 ∨ T.c.k = 11
  · rw [if_pos h2]; exact A.waits h2
  rw [if_neg h2]
  refine ite_wf (A.prim _ _) ?_
  refine ite_wf (U.tellsV (good_thing _ _)) ?_
  refine ite_wf (U.get_ _ _) ?_
  refine ite_wf (U.call _ _) ?_
  by_cases h7 : T.c.k = 7
  · rw [if_pos h7]
    have hl := sh.l7 (by rw [← eC]; exact h7)
    rw [← eC] at hl
    obtain ⟨p, hp⟩ : ∃ p, T.c.l = [p] := by
      match hS : T.c.l, hl with
      | [p], _ => exact ⟨p, rfl⟩
    have e0 : T.kid 0 = p := by simp [St.kid, hp]
    rw [e0]
    exact U.tellsV (good_fn (U.c.kids.2.1 h7 p hp))
  rw [if_neg h7]
  by_cases h8 : T.c.k = 8
  · rw [if_pos h8]
    have hl := (sh.l8 (by rw [← eC]; exact h8)).1
    exact U.rec_ h8 (by rw [eC]; intro q; rw [q] at hl; simp at hl)
  rw [if_neg h8]
  by_cases h9 : T.c.k = 9
  · rw [if_pos h9]; exact U.chooses (U.c.kids.2.2.1 (.inl h9)) _ _
  rw [if_neg h9]
  by_cases h10 : T.c.k = 10
  · rw [if_pos h10]; exact U.chooses (U.c.kids.2.2.1 (.inr h10)) _ _
  rw [if_neg h10]
  exact ite_wf (U.raises _) U
theorem Wf.start {c : Co} (h : WfC [] c) : Wf (start c) 0 inpl := ⟨h, fun _ q => (by cases q), fun _ q => (by cases q), fun _ q => (by cases q), fun _ q => (by cases q), Nat.le_refl _, Nat.le_refl _, Nat.zero_le _⟩
theorem Wf.nth {c : Co} (h : WfC [] c) : ∀ i, Wf ((Go.Proofs.YtjbiefneffiogaaGreat.start c).nth inpl i) i inpl
  | 0 => Wf.start h
  | i + 1 => (Wf.nth h i).step
end
end Go.Proofs.YtjbiefneffiogaaGreat

namespace Go.Proofs.YtjbiefneffiogaaGreat
open Go Am
end Go.Proofs.YtjbiefneffiogaaGreat

namespace Go.Proofs.YtjbiefneffiogaaGreat
open Go Am
end Go.Proofs.YtjbiefneffiogaaGreat

namespace Go.Proofs.YtjbiefneffiogaaGreat
open Go Am
end Go.Proofs.YtjbiefneffiogaaGreat

namespace Go.Proofs.YtjbiefneffiogaaGreat
open Go Am
end Go.Proofs.YtjbiefneffiogaaGreat

namespace Go.Proofs.YtjbiefneffiogaaGreat
open Go Am
theorem intsV_app (l m : List Int) : intsV (l ++ m) = intsV l ++ intsV m := by simp [intsV]
theorem intsV_ones (l : List Int) : ones (intsV l) = true := by
  induction l with
  | nil => rfl
  | cons x l ih => exact ih
theorem one_int (h : Heap) (x : Int) (B : Nat) (hB : B ≤ h.next) : SlO B (h.new (.ofL [.int .i64 x] 0 false)) 1 (.slice (pa h.next) 0 1 1) 1 (intsV [x]) :=
  ⟨rfl, rfl, by rw [unPa_pa]; exact hB, old_lt (by rw [next_new]; omega), Nat.le_refl _, by unfold top; omega, [.int .i64 x], 0, false, get_new_self _, by simp, rfl⟩
theorem binds_ctr (c : Co) (vs : List V) (h : Heap) (H : CoIn h c vs) (hf : fit 1048576 c) (h8 : c.k = 8 → 1 ≤ c.l.length) (h14 : c.k ≠ 14) :
    Ctr Tryz.prog 65 [.agg vs] h fun x h' => SlO (h.next + 1) h' 1 x (ownNames c.k c.x c.l).length (intsV (ownNames c.k c.x c.l)) ∧ Ext h h' := by
  obtain ⟨f1, f2, f3, f4, f5⟩ := hf.kids
  obtain ⟨va, vt, vl, rfl, Ha, Ht, Hl⟩ := H.open
  refine c65_ctr rfl (wpK_of ?_)
  unfold c65
  have e0 : Ext h (h.new (.ofL [.int .i64 c.k, .int .i64 c.x, .int .i64 c.n, .str c.s, va, vt, vl] 0 false)) := (Ext.refl h).new _
  have e14 := eq_false h14
  by_cases h7 : c.k = 7
  · have e7 := eq_true h7
    simp +contextual only [e7, ↓wA, wC, Ex.ends, evR, oneOf, top, ↓reduceIte, Nat.reduceEqDiff, Nat.reduceLeDiff, Nat.reduceAdd, Nat.reduceSub, Nat.reduceMul, reduceCtorEq, Int.reduceEq, Int.reduceLT, Int.reduceLE, Int.reduceNeg]
    rw [show ownNames c.k c.x c.l = [c.x] from by rw [ownNames, if_pos h7]]
    exact ⟨one_int (h.new (.ofL [.int .i64 c.k, .int .i64 c.x, .int .i64 c.n, .str c.s, va, vt, vl] 0 false)) c.x _ (by rw [next_new]; omega), e0.new _⟩
  have e7 := eq_false h7
  by_cases hk : c.k = 8
  · have e8 := eq_true hk
    have hl1 := h8 hk
    have hL := (Hl.ext e0).len
    have w0 : IntKind.i64.wrap ((c.l.length : Int) - 1) = ((c.l.length - 1 : Nat) : Int) := by rw [wrap_i64 (by omega) (by omega)]; omega
    obtain ⟨v', cut1, cut2⟩ := (Hl.ext e0).cut (k := .i64) (m := c.l.length - 1) (by omega)
    have hL' := cut2.len
    rw [List.length_take, Nat.min_eq_left (Nat.sub_le _ _)] at hL'
    simp +contextual only [e7, e8, hL, w0, cut1, hL', ↓wA, wC, Ex.ends, evR, oneOf, top, ↓reduceIte, Nat.reduceEqDiff, Nat.reduceLeDiff, Nat.reduceAdd, Nat.reduceSub, Nat.reduceMul, reduceCtorEq, Int.reduceEq, Int.reduceLT, Int.reduceLE, Int.reduceNeg]
    have hown : ownNames c.k c.x c.l = c.l.dropLast.map Co.n := by rw [ownNames, if_neg h7, if_pos hk]
    refine loopK_intro (fun r h' => Ext (h.new (.ofL [.int .i64 c.k, .int .i64 c.x, .int .i64 c.n, .str c.s, va, vt, vl] 0 false)) h' ∧ r 23 = v' ∧ r 24 = .int .i64 ((c.l.length - 1 : Nat) : Int) ∧
      ∃ (i : Nat) (v : V), r 25 = .int .i64 i ∧ i ≤ c.l.length - 1 ∧ r 3 = v ∧ SlO (h.next + 1) h' 1 v i (intsV ((c.l.take i).map Co.n))) (fun r h' => c.l.length - (r 25).toN) ?_ ?_
    · exact ⟨Ext.refl _, by simp only [↓wA, wC, ↓reduceIte, Nat.reduceEqDiff, reduceCtorEq], by simp only [↓wA, wC, ↓reduceIte, Nat.reduceEqDiff, reduceCtorEq], 0, .nilslice, by simp only [↓wA, wC, ↓reduceIte, Nat.reduceEqDiff, reduceCtorEq] <;> rfl, by omega, by simp only [↓wA, wC, ↓reduceIte, Nat.reduceEqDiff, reduceCtorEq], ⟨rfl, rfl⟩⟩
    · rintro r h' ⟨hx, r23, r24, i, v, r25, hi, r3, hv⟩
      unfold c65l1
      by_cases hlt : i < c.l.length - 1
      · have g0 : ((i : Int) < ((c.l.length - 1 : Nat) : Int)) = True := eq_true (by omega)
        have hlt2 : i < c.l.length := by omega
        have hlt3 : i < (c.l.take (c.l.length - 1)).length := by rw [List.length_take]; omega
        obtain ⟨b, o, u, ia, hu, ld, _⟩ := (cut2.ext hx).at (k := .i64) hlt3
        rw [List.getElem_take] at hu
        have htk : (c.l.take (i + 1)).map Co.n = (c.l.take i).map Co.n ++ [c.l[i].n] := by rw [List.take_add_one, List.getElem?_eq_getElem hlt2, List.map_append]; rfl
        generalize hfd : c.l[i] = f at *
        obtain ⟨fa, ft, fl, rfl, Fa, Ft, Fl⟩ := hu.open
        have w := w_inc hlt2 (by omega)
        have o1 := Fa.one.1
        have o2 := Ft.one.1
        have o3 := Fl.one.1
        have hx1 : Ext h' ((h'.new (.ofL [.int .i64 0, .int .i64 0, .int .i64 0, .str [], .nilslice, .nilslice, .nilslice] 0 false)).set (pa h'.next) (.ofL [.int .i64 f.k, .int .i64 f.x, .int .i64 f.n, .str f.s, fa, ft, fl] 0 false)) := ((Ext.refl h').new _).set (Nat.le_refl _) _
        have hnn := hx.next
        rw [next_new] at hnn
        have gn : ((h'.new (.ofL [.int .i64 0, .int .i64 0, .int .i64 0, .str [], .nilslice, .nilslice, .nilslice] 0 false)).set (pa h'.next) (.ofL [.int .i64 f.k, .int .i64 f.x, .int .i64 f.n, .str f.s, fa, ft, fl] 0 false)).next = h'.next + 1 := by rw [next_set, next_new]
        simp +contextual only [r3, r23, r24, r25, g0, ia, ld, o1, o2, o3, Bool.and_self, ↓wA, wC, Ex.ends, evR, oneOf, top, ↓reduceIte, Nat.reduceEqDiff, Nat.reduceLeDiff, Nat.reduceAdd, Nat.reduceSub, Nat.reduceMul, reduceCtorEq, Int.reduceEq, Int.reduceLT, Int.reduceLE, Int.reduceNeg]
        obtain ⟨v3, h3, q1, q2, q3, q4, q5⟩ := app_one (cs := [.int .i64 f.n]) (by omega) (hv.ext hx1) (by rw [gn]; omega) (by unfold top; omega) rfl rfl
        rw [gn] at q1
        simp +contextual only [q1, r23, r24, r25, w, ↓wA, wC, Ex.ends, evR, oneOf, top, ↓reduceIte, Nat.reduceEqDiff, Nat.reduceLeDiff, Nat.reduceAdd, Nat.reduceSub, Nat.reduceMul, reduceCtorEq, Int.reduceEq, Int.reduceLT, Int.reduceLE, Int.reduceNeg]
        have hx3 : Ext (h.new (.ofL [.int .i64 c.k, .int .i64 c.x, .int .i64 c.n, .str c.s, va, vt, vl] 0 false)) h3 := (hx.trans hx1).mod_new q3 (fun b hb => by rw [next_new]; exact hv.base hb)
        exact ⟨⟨hx3, ⟨i + 1, v3, rfl, by omega, rfl, by rw [htk, intsV_app]; exact q2⟩⟩, by omega⟩
      · have g0 : ((i : Int) < ((c.l.length - 1 : Nat) : Int)) = False := eq_false (by omega)
        obtain rfl : i = c.l.length - 1 := by omega
        simp +contextual only [r3, r23, r24, r25, g0, ↓wA, wC, Ex.ends, evR, oneOf, top, ↓reduceIte, Nat.reduceEqDiff, Nat.reduceLeDiff, Nat.reduceAdd, Nat.reduceSub, Nat.reduceMul, reduceCtorEq, Int.reduceEq, Int.reduceLT, Int.reduceLE, Int.reduceNeg]
        rw [hown, List.dropLast_eq_take, List.length_map, List.length_take, Nat.min_eq_left (Nat.sub_le _ _)]
        exact ⟨hv, e0.trans hx⟩
  · have e8 := eq_false hk
    simp +contextual only [e7, e8, e14, ↓wA, wC, Ex.ends, evR, oneOf, top, ↓reduceIte, Nat.reduceEqDiff, Nat.reduceLeDiff, Nat.reduceAdd, Nat.reduceSub, Nat.reduceMul, reduceCtorEq, Int.reduceEq, Int.reduceLT, Int.reduceLE, Int.reduceNeg]
    rw [show ownNames c.k c.x c.l = [] from by rw [ownNames, if_neg h7, if_neg hk]]
    exact ⟨⟨rfl, rfl⟩, e0⟩
end Go.Proofs.YtjbiefneffiogaaGreat

namespace Go.Proofs.YtjbiefneffiogaaGreat
open Go Am
theorem Mod_next {M N : Pa → Prop} {h h1 h2 : Heap} (m : Mod M h h1) (e : Mod N h1 h2) (hN : ∀ b, Old h b → N b → M b) : Mod M h h2 :=
  ⟨Nat.le_trans m.next e.next, fun b hb hm => (e.get b (m.old hb) (fun q => hm (hN b hb q))).trans (m.get b hb hm)⟩
structure OutS (g : FuncId) (hb h : Heap) (po pg : Pa) (acc : List Int) (vo : V) : Prop where
  ext : Ext hb h
  hpo : h.get po = .ofL [vo] 0 false
  hpg : h.get pg = .ofL [.func g [.ptr po 0, .ptr pg 0]] 0 false
  opo : Old h po
  opg : Old h pg
  npo : hb.next ≤ unPa po
  npg : hb.next ≤ unPa pg
  ne : po ≠ pg
  own : SlO hb.next h 1 vo acc.length (intsV acc)
  nbo : ∀ b, vo.blk b → b ≠ po ∧ b ≠ pg
theorem OutS.keep {g : FuncId} {hb h h' : Heap} {po pg : Pa} {acc : List Int} {vo : V} (O : OutS g hb h po pg acc vo) (e : Ext h h') : OutS g hb h' po pg acc vo :=
  ⟨O.ext.trans e, by rw [e.get _ O.opo]; exact O.hpo, by rw [e.get _ O.opg]; exact O.hpg, e.old O.opo, e.old O.opg, O.npo, O.npg, O.ne, O.own.ext e, O.nbo⟩
theorem OutS.push {g : FuncId} {hb h h3 : Heap} {po pg : Pa} {acc m : List Int} {vo v3 : V} (O : OutS g hb h po pg acc vo) (q2 : SlO hb.next h3 1 v3 (acc.length + m.length) (intsV acc ++ intsV m)) (q3 : Mod vo.blk h h3) (q5 : ∀ b, v3.blk b → vo.blk b ∨ h.next ≤ unPa b) :
    OutS g hb (h3.set po (.ofL [v3] 0 false)) po pg (acc ++ m) v3 ∧ Mod (fun b => b = po ∨ vo.blk b) h (h3.set po (.ofL [v3] 0 false)) := by
  have hmod : Mod (fun b => b = po ∨ vo.blk b) h (h3.set po (.ofL [v3] 0 false)) := (q3.mono fun b _ hb => .inr hb).set (fun _ => .inl rfl) _
  have hext : Ext hb (h3.set po (.ofL [v3] 0 false)) := O.ext.mod_new hmod (fun b hb => by
    rcases hb with rfl | hb
    · exact O.npo
    · exact O.own.base hb)
  have v3n : ∀ b, v3.blk b → b ≠ po ∧ b ≠ pg := by
    intro b hb
    rcases q5 b hb with q | q
    · exact O.nbo b q
    · have h1 := O.opo
      have h2 := O.opg
      unfold Old at h1 h2
      exact ⟨fun e => by rw [e] at q; omega, fun e => by rw [e] at q; omega⟩
  refine ⟨⟨hext, by rw [get_set, if_pos rfl], ?_, ?_, ?_, O.npo, O.npg, O.ne, ?_, v3n⟩, hmod⟩
  · rw [get_set, if_neg O.ne, q3.get _ O.opg (fun q => (O.nbo _ q).2 rfl)]; exact O.hpg
  · exact q3.old O.opo
  · exact q3.old O.opg
  · rw [List.length_append, intsV_app]
    exact q2.mod (M := fun b => b = po) ((Mod.refl (fun b => b = po) h3).set (b := po) (fun _ => rfl) (.ofL [v3] 0 false)) (fun b hb => (v3n b hb).1)
theorem orders_len (N : Nat) (ih : ∀ c : Co, size c ≤ N → (order c).length + 1 ≤ 3 * size c) (late : Bool) (x : Int) : ∀ (l : List Co) (i : Nat), (∀ d ∈ l, size d ≤ N) → (orders late x l i).length + l.length ≤ 3 * sizes l + (if late = true ∧ i ≤ 1 then 1 else 0)
  | [], i, _ => by simp [orders]
  | d :: l, i, hd => by
    have h1 := ih d (hd d (by simp))
    have h2 := orders_len N ih late x l (i + 1) (fun e he => hd e (by simp [he]))
    simp only [orders, sizes, List.length_append, List.length_cons]
    by_cases hc : late = true
    · subst hc
      by_cases h0 : i = 0
      · subst h0
        simp at h2 ⊢
        omega
      · by_cases h1' : i = 1
        · subst h1'
          simp at h2 ⊢
          omega
        · have e1 : (i == 1) = false := by simpa using h1'
          have e2 : ¬ (i ≤ 1) := by omega
          have e3 : ¬ (i + 1 ≤ 1) := by omega
          simp [e1, e2, h0] at h2 ⊢
          omega
    · have : late = false := by simpa using hc
      subst this
      simp at h2 ⊢
      omega
theorem order_len' : ∀ (N : Nat) (c : Co), size c ≤ N → (order c).length + 1 ≤ 3 * size c
  | 0, c, h => by have := size_pos c; omega
  | N + 1, c, h => by
    obtain ⟨k, x, n, s, a, t, l⟩ := c
    simp only [size] at h ⊢
    have h1 := orders_len N (order_len' N) (lateB k) x l 0 (fun d hd => by have := size_mem hd; omega)
    simp only [order, List.length_append]
    by_cases h7 : k = 7
    · subst h7
      have e1 : (ownNames 7 x l).length = 1 := rfl
      have e2 : lateB 7 = false := rfl
      rw [e2] at h1 ⊢
      simp at h1
      omega
    · by_cases h8 : k = 8
      · subst h8
        have e1 : (ownNames 8 x l).length ≤ l.length := by rw [ownNames, if_neg (by decide), if_pos rfl, List.length_map, List.length_dropLast]; omega
        have e2 : lateB 8 = false := rfl
        rw [e2] at h1 ⊢
        simp at h1
        omega
      · have e1 : (ownNames k x l).length = 0 := by rw [ownNames, if_neg h7, if_neg h8]; rfl
        have e3 : (if lateB k = true ∧ 0 ≤ 1 then 1 else 0) ≤ 1 := by split <;> omega
        omega
theorem order_len (c : Co) : (order c).length ≤ 3 * size c := by have := order_len' _ c (Nat.le_refl _); omega
theorem oks_at : ∀ {l : List Co} {i : Nat} {c : Co}, oks l → l[i]? = some c → okC c
  | [], _, _, _, h => by simp at h
  | d :: l, 0, c, hf, h => by simp only [List.getElem?_cons_zero, Option.some.injEq] at h; subst h; exact hf.1
  | d :: l, i + 1, c, hf, h => oks_at hf.2 (by simpa using h)
theorem order1_ctr : ∀ (N : Nat) (c : Co), size c ≤ N → fit 1048576 c → okC c → ∀ (vs : List V) (hb : Heap), CoIn hb c vs → ∀ (h : Heap) (po pg : Pa) (acc : List Int) (vo : V), OutS 64 hb h po pg acc vo → acc.length + (order c).length ≤ 8000000 →
    Ctr Tryz.prog 64 [.agg vs, .ptr po 0, .ptr pg 0] h fun x h' => ∃ vo', OutS 64 hb h' po pg (acc ++ order c) vo' ∧ (∀ b, vo'.blk b → vo.blk b ∨ h.next ≤ unPa b) ∧ Mod (fun b => b = po ∨ vo.blk b) h h'
  | 0, c, hs, _, _, _, _, _, _, _, _, _, _, _, _ => by have := size_pos c; omega
  | N + 1, c, hs, hf, hok, vs, hb, H, h, po, pg, acc, vo, O, hl => by
    obtain ⟨f1, f2, f3, f4, f5⟩ := hf.kids
    have hsl := size_l c
    obtain ⟨va, vt, vl, rfl, Ha, Ht, Hl⟩ := H.open
    have H' := H
    refine c64_ctr rfl (wpK_of ?_)
    unfold c64
    have e0 : Ext h (h.new (.ofL [.int .i64 c.k, .int .i64 c.x, .int .i64 c.n, .str c.s, va, vt, vl] 0 false)) := (Ext.refl h).new _
    have O0 := O.keep e0
    simp +contextual only [O0.hpo, ↓wA, wC, Ex.ends, evR, oneOf, top, ↓reduceIte, Nat.reduceEqDiff, Nat.reduceLeDiff, Nat.reduceAdd, Nat.reduceSub, Nat.reduceMul, reduceCtorEq, Int.reduceEq, Int.reduceLT, Int.reduceLE, Int.reduceNeg]
    have hok' : (c.k = 8 → 1 ≤ c.l.length) ∧ c.k ≠ 14 ∧ (lateB c.k = true → c.l.length = 2) ∧ oks c.l := by cases c; exact hok
    obtain ⟨k1, k2, k3, k4⟩ := hok'
    refine callK_intro (binds_ctr c _ _ (H.ext (O.ext.trans e0)) hf k1 k2) ?_
    rintro x g1 ⟨hown, hx1⟩
    have O1 := O0.keep hx1
    have hxg := e0.trans hx1
    have gn1 : h.next < g1.next := by have := hx1.next; rw [next_new] at this; omega
    have c1 : g1.get (pa h.next) = .ofL [.int .i64 c.k, .int .i64 c.x, .int .i64 c.n, .str c.s, va, vt, vl] 0 false := by rw [hx1.get _ (old_lt (by rw [next_new]; omega)), get_new_self]
    have holen := order_len c
    have hown_len : (ownNames c.k c.x c.l).length ≤ (order c).length := by
      cases c
      simp only [order, List.length_append, Co.k, Co.x, Co.l]
      omega
    obtain ⟨v3, h3, q1, q2, q3, q5⟩ := app_own (by omega) O1.own hown.v (O1.ext.next) (by unfold top; omega) (intsV_ones _)
    obtain ⟨O3, m3⟩ := O1.push q2 q3 q5
    have hopo : unPa po < h.next := O.opo
    have hov : ∀ b, vo.blk b → unPa b < h.next := fun b hb => O.own.v.old hb
    have hpone : (pa h.next = po) = False := eq_false (fun e => by rw [← e, unPa_pa] at hopo; omega)
    have c3 : (h3.set po (.ofL [v3] 0 false)).get (pa h.next) = .ofL [.int .i64 c.k, .int .i64 c.x, .int .i64 c.n, .str c.s, va, vt, vl] 0 false := by
      have hn : ¬ (pa h.next = po ∨ vo.blk (pa h.next)) := by
        rintro (e | e)
        · exact hpone.mp e
        · have := hov _ e
          rw [unPa_pa] at this
          omega
      rw [m3.get _ (old_lt gn1) hn]
      exact c1
    have h3po : h3.get po = .ofL [vo] 0 false := by rw [q3.get _ O1.opo (fun q => (O.nbo _ q).1 rfl)]; exact O1.hpo
    have hv3o : v3.one = true := q2.v.one.1
    have hv3c : v3.cells = [v3] := q2.v.one.2.1
    have hL3 := (Hl.ext O3.ext).len
    simp +contextual only [O0.hpo, O1.hpo, h3po, c1, c3, q1, hv3o, hv3c, hL3, ↓wA, wC, Ex.ends, evR, oneOf, top, ↓reduceIte, Nat.reduceEqDiff, Nat.reduceLeDiff, Nat.reduceAdd, Nat.reduceSub, Nat.reduceMul, reduceCtorEq, Int.reduceEq, Int.reduceLT, Int.reduceLE, Int.reduceNeg]
    generalize h3.set po (.ofL [v3] 0 false) = G3 at *
    have q5' : ∀ b, v3.blk b → vo.blk b ∨ h.next ≤ unPa b := fun b hb => (q5 b hb).imp id (fun q => by omega)
    have m3' : Mod (fun b => b = po ∨ vo.blk b) h G3 := (hxg.mod _).trans m3
    have gn3 : h.next < G3.next := by have := m3.next; omega
    have hpg' : unPa pg < h.next := O.opg
    refine loopK_intro (fun r h' => r 1 = .ptr po 0 ∧ r 2 = .ptr pg 0 ∧ r 3 = .ptr (pa h.next) 0 ∧ r 11 = vl ∧ r 12 = .int .i64 c.l.length ∧ h.next < h'.next ∧ h'.get (pa h.next) = .ofL [.int .i64 c.k, .int .i64 c.x, .int .i64 c.n, .str c.s, va, vt, vl] 0 false ∧ Mod (fun b => b = po ∨ vo.blk b) h h' ∧
      ∃ (i : Nat) (done : List Int) (w : V), r 13 = .int .i64 i ∧ i ≤ c.l.length ∧ OutS 64 hb h' po pg done w ∧ (∀ b, w.blk b → (vo.blk b ∨ h.next ≤ unPa b) ∧ b ≠ pa h.next) ∧ done ++ orders (lateB c.k) c.x (c.l.drop i) i = acc ++ order c) (fun r h' => c.l.length - (r 13).toN) ?_ ?_
    · refine ⟨by simp only [↓wA, wC, ↓reduceIte, Nat.reduceEqDiff, reduceCtorEq], by simp only [↓wA, wC, ↓reduceIte, Nat.reduceEqDiff, reduceCtorEq], by simp only [↓wA, wC, ↓reduceIte, Nat.reduceEqDiff, reduceCtorEq], by simp only [↓wA, wC, ↓reduceIte, Nat.reduceEqDiff, reduceCtorEq], by simp only [↓wA, wC, ↓reduceIte, Nat.reduceEqDiff, reduceCtorEq], gn3, c3, m3', 0, acc ++ ownNames c.k c.x c.l, v3, by simp only [↓wA, wC, ↓reduceIte, Nat.reduceEqDiff, reduceCtorEq] <;> rfl, by omega, O3, fun b hb => ⟨q5' b hb, ?_⟩, ?_⟩
      · rintro rfl
        rcases q5 _ hb with q | q
        · have := hov _ q; rw [unPa_pa] at this; omega
        · rw [unPa_pa] at q; omega
      · cases c
        simp only [order, List.append_assoc, List.drop_zero, Co.k, Co.x, Co.l]
    · rintro r h' ⟨r1, r2, r3, r11, r12, hn, hb1, hmod, i, done, w, r13, hi, Oi, hw, hdone⟩
      unfold c64l1
      by_cases hlt : i < c.l.length
      · have g0 : ((i : Int) < (c.l.length : Int)) = True := eq_true (by omega)
        obtain ⟨b, o, u, ia, hu, lds⟩ := Hl.atx (k := .i64) hlt
        have ld := (lds h' Oi.ext).1
        rw [List.drop_eq_getElem_cons hlt, orders] at hdone
        have hfi : c.l[i]? = some c.l[i] := List.getElem?_eq_getElem hlt
        generalize hfd : c.l[i] = f at *
        obtain ⟨fa, ft, fl, rfl, Fa, Ft, Fl⟩ := hu.open
        have wi := w_inc hlt (by omega)
        have o1 := Fa.one.1
        have o2 := Ft.one.1
        have o3 := Fl.one.1
        have hx1 : Ext h' ((h'.new (.ofL [.int .i64 0, .int .i64 0, .int .i64 0, .str [], .nilslice, .nilslice, .nilslice] 0 false)).set (pa h'.next) (.ofL [.int .i64 f.k, .int .i64 f.x, .int .i64 f.n, .str f.s, fa, ft, fl] 0 false)) := ((Ext.refl h').new _).set (Nat.le_refl _) _
        have gn : ((h'.new (.ofL [.int .i64 0, .int .i64 0, .int .i64 0, .str [], .nilslice, .nilslice, .nilslice] 0 false)).set (pa h'.next) (.ofL [.int .i64 f.k, .int .i64 f.x, .int .i64 f.n, .str f.s, fa, ft, fl] 0 false)).next = h'.next + 1 := by rw [next_set, next_new]
        have gb : ((h'.new (.ofL [.int .i64 0, .int .i64 0, .int .i64 0, .str [], .nilslice, .nilslice, .nilslice] 0 false)).set (pa h'.next) (.ofL [.int .i64 f.k, .int .i64 f.x, .int .i64 f.n, .str f.s, fa, ft, fl] 0 false)).get (pa h'.next) = .ofL [.int .i64 f.k, .int .i64 f.x, .int .i64 f.n, .str f.s, fa, ft, fl] 0 false := by rw [get_set, if_pos rfl]
        have nn1 : (h'.next = h.next) = False := eq_false (by omega)
        have nn2 : (h.next = h'.next) = False := eq_false (by omega)
        have nepg : (pa h'.next = pg) = False := eq_false (fun e => by rw [← e, unPa_pa] at hpg'; omega)
        have nepo : (pa h'.next = po) = False := eq_false (fun e => by rw [← e, unPa_pa] at hopo; omega)
        have hnb : ∀ (w : V), (∀ b, w.blk b → b ≠ pa h.next) → ¬ (pa h.next = po ∨ w.blk (pa h.next)) := by
          rintro w hw (e | e)
          · exact hpone.mp e
          · exact hw _ e rfl
        have after : ∀ (G : Heap) (done' : List Int) (w' : V), OutS 64 hb G po pg done' w' → h.next < G.next → G.get (pa h.next) = .ofL [.int .i64 c.k, .int .i64 c.x, .int .i64 c.n, .str c.s, va, vt, vl] 0 false → Mod (fun b => b = po ∨ vo.blk b) h G →
            (∀ b, w'.blk b → (vo.blk b ∨ h.next ≤ unPa b) ∧ b ≠ pa h.next) → done'.length + (order f).length ≤ 8000000 →
            Ctr Tryz.prog 64 [.agg [.int .i64 f.k, .int .i64 f.x, .int .i64 f.n, .str f.s, fa, ft, fl], .ptr po 0, .ptr pg 0] G fun x g2 => ∃ w2, OutS 64 hb g2 po pg (done' ++ order f) w2 ∧ h.next < g2.next ∧ g2.get (pa h.next) = .ofL [.int .i64 c.k, .int .i64 c.x, .int .i64 c.n, .str c.s, va, vt, vl] 0 false ∧ Mod (fun b => b = po ∨ vo.blk b) h g2 ∧
              (∀ b, w2.blk b → (vo.blk b ∨ h.next ≤ unPa b) ∧ b ≠ pa h.next) := by
          intro G done' w' OG hG hGb hGm hGw hGl
          refine (order1_ctr N f (by have := size_idx hfi; omega) (fits_at f5 hfi) (oks_at k4 hfi) _ hb hu G po pg done' w' OG hGl).mono ?_
          rintro x g2 ⟨w2, O2, p1, p2⟩
          refine ⟨w2, O2, by have := p2.next; omega, ?_, ?_, ?_⟩
          · rw [p2.get _ (old_lt hG) (hnb w' fun b hb => (hGw b hb).2)]; exact hGb
          · refine Mod_next hGm p2 fun b hb hN => ?_
            rcases hN with e | e
            · exact .inl e
            · rcases (hGw b e).1 with q | q
              · exact .inr q
              · unfold Old at hb; omega
          · intro b hb
            rcases p1 b hb with q | q
            · exact hGw b q
            · exact ⟨.inr (by omega), by rintro rfl; rw [unPa_pa] at q; omega⟩
        have hmG : Mod (fun b => b = po ∨ vo.blk b) h ((h'.new (.ofL [.int .i64 0, .int .i64 0, .int .i64 0, .str [], .nilslice, .nilslice, .nilslice] 0 false)).set (pa h'.next) (.ofL [.int .i64 f.k, .int .i64 f.x, .int .i64 f.n, .str f.s, fa, ft, fl] 0 false)) := Mod_next hmod (hx1.mod fun _ => False) (fun _ _ q => q.elim)
        have hbG : ((h'.new (.ofL [.int .i64 0, .int .i64 0, .int .i64 0, .str [], .nilslice, .nilslice, .nilslice] 0 false)).set (pa h'.next) (.ofL [.int .i64 f.k, .int .i64 f.x, .int .i64 f.n, .str f.s, fa, ft, fl] 0 false)).get (pa h.next) = .ofL [.int .i64 c.k, .int .i64 c.x, .int .i64 c.n, .str c.s, va, vt, vl] 0 false := by rw [hx1.get _ (old_lt hn)]; exact hb1
        have OG := Oi.keep hx1
        by_cases hlate : lateB c.k = true ∧ i = 1
        · obtain ⟨hla, rfl⟩ := hlate
          have hc1 : (if (lateB c.k && (1 : Nat) == 1) = true then [c.x] else []) = [c.x] := by
            rw [if_pos]
            rw [hla]; rfl
          rw [hc1] at hdone
          have hlen := congrArg List.length hdone
          simp only [List.length_append, List.length_cons, List.length_nil] at hlen
          have hcond : (decide (c.k = 2) || decide (c.k = 11)) = true := by simpa [lateB] using hla
          have hi1 : (((1 : Nat) : Int) = 1) = True := eq_true rfl
          obtain ⟨v3', h3', a1, a2, a3, a4, a5⟩ := app_one (cs := [.int .i64 c.x]) (by omega) OG.own OG.ext.next (by unfold top; omega) rfl rfl
          rw [gn] at a1
          obtain ⟨O3', m4⟩ := OG.push (m := [c.x]) a2 a3 (fun b hb => (a5 b hb).imp id (fun q => by omega))
          have hv3o' : v3'.one = true := a2.v.one.1
          have hv3c' : v3'.cells = [v3'] := a2.v.one.2.1
          have h3po' : h3'.get po = .ofL [w] 0 false := by rw [a3.get _ OG.opo (fun q => (Oi.nbo _ q).1 rfl)]; exact OG.hpo
          have h3pg' : h3'.get pg = .ofL [.func 64 [.ptr po 0, .ptr pg 0]] 0 false := by rw [a3.get _ OG.opg (fun q => (Oi.nbo _ q).2 rfl)]; exact OG.hpg
          have hown' : Old ((h'.new (.ofL [.int .i64 0, .int .i64 0, .int .i64 0, .str [], .nilslice, .nilslice, .nilslice] 0 false)).set (pa h'.next) (.ofL [.int .i64 f.k, .int .i64 f.x, .int .i64 f.n, .str f.s, fa, ft, fl] 0 false)) (pa h'.next) := old_lt (by rw [gn]; omega)
          have hwb : ∀ b, w.blk b → unPa b < h'.next := fun b hb => Oi.own.v.old hb
          have h3b' : h3'.get (pa h'.next) = .ofL [.int .i64 f.k, .int .i64 f.x, .int .i64 f.n, .str f.s, fa, ft, fl] 0 false := by
            rw [a3.get _ hown' (fun q => by have := hwb _ q; rw [unPa_pa] at this; omega)]; exact gb
          have h3h' : h3'.get (pa h.next) = .ofL [.int .i64 c.k, .int .i64 c.x, .int .i64 c.n, .str c.s, va, vt, vl] 0 false := by
            rw [a3.get _ (old_lt (by rw [gn]; omega)) (fun q => (hw _ q).2 rfl)]; exact hbG
          have hpone' : (po = pa h.next) = False := eq_false (fun e => hpone.mp e.symm)
          have nepo' : (po = pa h'.next) = False := eq_false (fun e => nepo.mp e.symm)
          have npp : (po = pg) = False := eq_false O.ne
          simp +contextual only [r1, r2, r3, r11, r12, r13, hb1, Oi.hpo, Oi.hpg, hi1, g0, ia, ld, o1, o2, o3, nn1, nn2, nepg, nepo, hcond, Bool.and_self, a1, hv3o', hv3c', h3po', h3pg', h3b', h3h', hpone', nepo', npp, ↓wA, wC, Ex.ends, evR, oneOf, top, ↓reduceIte, Nat.reduceEqDiff, Nat.reduceLeDiff, Nat.reduceAdd, Nat.reduceSub, Nat.reduceMul, reduceCtorEq, Int.reduceEq, Int.reduceLT, Int.reduceLE, Int.reduceNeg]
          refine callK_intro (after _ (done ++ [c.x]) v3' O3' (by rw [next_set]; have := a3.next; rw [gn] at this; omega) (by rw [get_set, if_neg (fun e => hpone'.mp e)]; exact h3h') (Mod_next hmG m4 fun b hb hN => ?_) (fun b hb => ?_) (by simp only [List.length_append, List.length_cons, List.length_nil]; omega)) ?_
          · rcases hN with e | e
            · exact .inl e
            · rcases (hw b e).1 with q | q
              · exact .inr q
              · unfold Old at hb; omega
          · rcases a5 b hb with q | q
            · exact hw b q
            · rw [gn] at q
              exact ⟨.inr (by omega), by rintro rfl; rw [unPa_pa] at q; omega⟩
          rintro x g2 ⟨w2, O2, p1, p2, p3, p4⟩
          simp +contextual only [r1, r2, r3, r11, r12, r13, wi, ↓wA, wC, Ex.ends, evR, oneOf, top, ↓reduceIte, Nat.reduceEqDiff, Nat.reduceLeDiff, Nat.reduceAdd, Nat.reduceSub, Nat.reduceMul, reduceCtorEq, Int.reduceEq, Int.reduceLT, Int.reduceLE, Int.reduceNeg]
          exact ⟨⟨p1, p2, p3, 2, done ++ [c.x] ++ order f, w2, rfl, hlt, O2, p4, by rw [← hdone]; simp only [List.append_assoc]⟩, by omega⟩
        · have hc1 : (if (lateB c.k && i == 1) = true then [c.x] else []) = ([] : List Int) := by
            rw [if_neg]
            simp only [Bool.and_eq_true, beq_iff_eq]
            exact hlate
          rw [hc1, List.nil_append] at hdone
          have hlen := congrArg List.length hdone
          simp only [List.length_append, List.length_cons, List.length_nil] at hlen
          have hcond : (decide ((i : Int) = 1) && (decide (c.k = 2) || decide (c.k = 11))) = false := by
            rw [Bool.and_eq_false_iff]
            by_cases h1 : i = 1
            · right
              have : ¬ lateB c.k = true := fun q => hlate ⟨q, h1⟩
              simpa [lateB] using this
            · left
              exact decide_eq_false (by omega)
          simp +contextual only [r1, r2, r3, r11, r12, r13, hb1, Oi.hpg, g0, ia, ld, o1, o2, o3, nn1, nn2, nepg, nepo, hcond, Bool.and_self, ↓wA, wC, Ex.ends, evR, oneOf, top, ↓reduceIte, Nat.reduceEqDiff, Nat.reduceLeDiff, Nat.reduceAdd, Nat.reduceSub, Nat.reduceMul, reduceCtorEq, Int.reduceEq, Int.reduceLT, Int.reduceLE, Int.reduceNeg]
          refine callK_intro (after _ done w OG (by rw [gn]; omega) hbG hmG hw (by omega)) ?_
          rintro x g2 ⟨w2, O2, p1, p2, p3, p4⟩
          simp +contextual only [r1, r2, r3, r11, r12, r13, wi, ↓wA, wC, Ex.ends, evR, oneOf, top, ↓reduceIte, Nat.reduceEqDiff, Nat.reduceLeDiff, Nat.reduceAdd, Nat.reduceSub, Nat.reduceMul, reduceCtorEq, Int.reduceEq, Int.reduceLT, Int.reduceLE, Int.reduceNeg]
          exact ⟨⟨p1, p2, p3, i + 1, done ++ order f, w2, rfl, hlt, O2, p4, by rw [List.append_assoc]; exact hdone⟩, by omega⟩
      · have g0 : ((i : Int) < (c.l.length : Int)) = False := eq_false (by omega)
        rw [List.drop_eq_nil_of_le (by omega), orders, List.append_nil] at hdone
        simp +contextual only [r1, r2, r3, r11, r12, r13, g0, ↓wA, wC, Ex.ends, evR, oneOf, top, ↓reduceIte, Nat.reduceEqDiff, Nat.reduceLeDiff, Nat.reduceAdd, Nat.reduceSub, Nat.reduceMul, reduceCtorEq, Int.reduceEq, Int.reduceLT, Int.reduceLE, Int.reduceNeg]
        rw [← hdone]
        exact ⟨w, Oi, fun b hb => (hw b hb).1, hmod⟩
end Go.Proofs.YtjbiefneffiogaaGreat

namespace Go.Proofs.YtjbiefneffiogaaGreat
open Go Am
theorem Order_ctr (c : Co) (vs : List V) (h : Heap) (H : CoIn h c vs) (hf : fit 1048576 c) (hok : okC c) (hl : (order c).length ≤ 8000000) :
    Ctr Tryz.prog 45 [.agg vs] h fun x h' => SlO h.next h' 1 x (order c).length (intsV (order c)) ∧ Ext h h' := by
  obtain ⟨va, vt, vl, rfl, Ha, Ht, Hl⟩ := H.open
  refine c45_ctr rfl (wpK_of ?_)
  unfold c45
  simp +contextual only [↓wA, wC, Ex.ends, evR, oneOf, top, ↓reduceIte, Nat.reduceEqDiff, Nat.reduceLeDiff, Nat.reduceAdd, Nat.reduceSub, Nat.reduceMul, reduceCtorEq, Int.reduceEq, Int.reduceLT, Int.reduceLE, Int.reduceNeg]
  generalize hG : ((((h.new (.ofL [.int .i64 c.k, .int .i64 c.x, .int .i64 c.n, .str c.s, va, vt, vl] 0 false)).new (.ofL [.nilslice] 0 false)).new (.ofL [.nilfunc] 0 false)).set (pa (h.next + 2)) (.ofL [.func 64 [.ptr (pa (h.next + 1)) 0, .ptr (pa (h.next + 2)) 0]] 0 false)) = G at *
  have hx : Ext h G := by rw [← hG]; exact (((Ext.refl h).new _).new _ |>.new _).set (by omega) _
  have hn : G.next = h.next + 3 := by rw [← hG]; simp only [next_set, next_new]
  have g1 : G.get (pa (h.next + 1)) = .ofL [.nilslice] 0 false := by
    rw [← hG, get_set, if_neg (by rw [pa_eq]; omega), get_new, if_neg (by simp only [next_new]; rw [pa_eq]; omega), get_new, if_pos (by simp only [next_new])]
  have g2 : G.get (pa (h.next + 2)) = .ofL [.func 64 [.ptr (pa (h.next + 1)) 0, .ptr (pa (h.next + 2)) 0]] 0 false := by rw [← hG, get_set, if_pos rfl]
  have O : OutS 64 h G (pa (h.next + 1)) (pa (h.next + 2)) [] .nilslice := ⟨hx, g1, g2, old_lt (by omega), old_lt (by omega), by rw [unPa_pa]; omega, by rw [unPa_pa]; omega, by rw [Ne, pa_eq]; omega, ⟨rfl, rfl⟩, fun b hb => hb.elim⟩
  refine callK_intro (order1_ctr (size c) c (Nat.le_refl _) hf hok _ h H G _ _ [] .nilslice O (by simpa using hl)) ?_
  rintro x h' ⟨w, O', p1, p2⟩
  rw [List.nil_append] at O'
  simp +contextual only [O'.hpo, ↓wA, wC, Ex.ends, evR, oneOf, top, ↓reduceIte, Nat.reduceEqDiff, Nat.reduceLeDiff, Nat.reduceAdd, Nat.reduceSub, Nat.reduceMul, reduceCtorEq, Int.reduceEq, Int.reduceLT, Int.reduceLE, Int.reduceNeg]
  exact ⟨O'.own, O'.ext⟩
end Go.Proofs.YtjbiefneffiogaaGreat

namespace Go.Proofs.YtjbiefneffiogaaGreat
open Go Am
structure Grown (hb h0 : Heap) (v0 : V) (h : Heap) (l : List Int) (v : V) : Prop where
  ext : Ext hb h
  own : SlO hb.next h 1 v l.length (intsV l)
  mod : Mod v0.blk h0 h
  new : ∀ b, v.blk b → v0.blk b ∨ h0.next ≤ unPa b
end Go.Proofs.YtjbiefneffiogaaGreat

namespace Go.Proofs.YtjbiefneffiogaaGreat
open Go Am
theorem wrap_add {a b : Nat} (h : a + b ≤ 4611686018427387904) : IntKind.i64.wrap ((a : Int) + (b : Int)) = ((a + b : Nat) : Int) := by
  rw [wrap_i64 (by omega) (by omega)]
  push_cast; rfl
theorem size_ctr : ∀ (N : Nat) (c : Co), size c ≤ N → size c ≤ 4611686018427387904 → ∀ (vs : List V) (h : Heap), CoIn h c vs →
    Ctr Tryz.prog 49 [.agg vs] h fun x h' => x = .int .i64 (size c) ∧ Ext h h'
  | 0, c, hs, _, _, _, _ => by have := size_pos c; omega
  | N + 1, c, hs, hf, vs, h, H => by
    have hsl := size_l c
    obtain ⟨va, vt, vl, rfl, Ha, Ht, Hl⟩ := H.open
    have hll := sizes_len c.l
    refine c49_ctr rfl (wpK_of ?_)
    unfold c49
    have e0 : Ext h (h.new (.ofL [.int .i64 c.k, .int .i64 c.x, .int .i64 c.n, .str c.s, va, vt, vl] 0 false)) := (Ext.refl h).new _
    have hL := (Hl.ext e0).len
    simp +contextual only [hL, ↓wA, wC, Ex.ends, evR, oneOf, top, ↓reduceIte, Nat.reduceEqDiff, Nat.reduceLeDiff, Nat.reduceAdd, Nat.reduceSub, Nat.reduceMul, reduceCtorEq, Int.reduceEq, Int.reduceLT, Int.reduceLE, Int.reduceNeg]
    refine loopK_intro (fun r h' => Ext h h' ∧ r 7 = vl ∧ r 8 = .int .i64 c.l.length ∧ ∃ i a : Nat, r 9 = .int .i64 i ∧ i ≤ c.l.length ∧ r 3 = .int .i64 a ∧ a + sizes (c.l.drop i) = size c) (fun r h' => c.l.length - (r 9).toN) ?_ ?_
    · exact ⟨e0, by simp only [↓wA, wC, ↓reduceIte, Nat.reduceEqDiff, reduceCtorEq], by simp only [↓wA, wC, ↓reduceIte, Nat.reduceEqDiff, reduceCtorEq], 0, 1, by simp only [↓wA, wC, ↓reduceIte, Nat.reduceEqDiff, reduceCtorEq] <;> rfl, by omega, by simp only [↓wA, wC, ↓reduceIte, Nat.reduceEqDiff, reduceCtorEq] <;> rfl, by cases c; simp only [size, List.drop_zero, Co.l]⟩
    · rintro r h' ⟨hx, r7, r8, i, a, r9, hi, r3, ha⟩
      unfold c49l1
      by_cases hlt : i < c.l.length
      · have g0 : ((i : Int) < (c.l.length : Int)) = True := eq_true (by omega)
        obtain ⟨b, o, u, ia, hu, lds⟩ := Hl.atx (k := .i64) hlt
        have ld := (lds h' hx).1
        rw [List.drop_eq_getElem_cons hlt, sizes] at ha
        have hfi : c.l[i]? = some c.l[i] := List.getElem?_eq_getElem hlt
        have hsz := size_idx hfi
        generalize hfd : c.l[i] = f at *
        obtain ⟨fa, ft, fl, rfl, Fa, Ft, Fl⟩ := hu.open
        have wi := w_inc hlt (by omega)
        have wa := wrap_add (a := a) (b := size f) (by omega)
        have o1 := Fa.one.1
        have o2 := Ft.one.1
        have o3 := Fl.one.1
        have hx1 : Ext h' ((h'.new (.ofL [.int .i64 0, .int .i64 0, .int .i64 0, .str [], .nilslice, .nilslice, .nilslice] 0 false)).set (pa h'.next) (.ofL [.int .i64 f.k, .int .i64 f.x, .int .i64 f.n, .str f.s, fa, ft, fl] 0 false)) := ((Ext.refl h').new _).set (Nat.le_refl _) _
        simp +contextual only [r3, r7, r8, r9, g0, ia, ld, o1, o2, o3, ↓wA, wC, Ex.ends, evR, oneOf, top, ↓reduceIte, Nat.reduceEqDiff, Nat.reduceLeDiff, Nat.reduceAdd, Nat.reduceSub, Nat.reduceMul, reduceCtorEq, Int.reduceEq, Int.reduceLT, Int.reduceLE, Int.reduceNeg]
        refine callK_intro (size_ctr N f (by omega) (by omega) _ _ (hu.ext (hx.trans hx1))) ?_
        rintro x g2 ⟨rfl, hx2⟩
        simp +contextual only [r3, r7, r8, r9, wi, wa, ↓wA, wC, Ex.ends, evR, oneOf, top, ↓reduceIte, Nat.reduceEqDiff, Nat.reduceLeDiff, Nat.reduceAdd, Nat.reduceSub, Nat.reduceMul, reduceCtorEq, Int.reduceEq, Int.reduceLT, Int.reduceLE, Int.reduceNeg]
        exact ⟨⟨(hx.trans hx1).trans hx2, i + 1, a + size f, rfl, hlt, rfl, by omega⟩, by omega⟩
      · have g0 : ((i : Int) < (c.l.length : Int)) = False := eq_false (by omega)
        rw [List.drop_eq_nil_of_le (by omega), sizes] at ha
        simp +contextual only [r3, r7, r8, r9, g0, ↓wA, wC, Ex.ends, evR, oneOf, top, ↓reduceIte, Nat.reduceEqDiff, Nat.reduceLeDiff, Nat.reduceAdd, Nat.reduceSub, Nat.reduceMul, reduceCtorEq, Int.reduceEq, Int.reduceLT, Int.reduceLE, Int.reduceNeg]
        exact ⟨by rw [← ha]; rfl, hx⟩
end Go.Proofs.YtjbiefneffiogaaGreat

namespace Go.Proofs.YtjbiefneffiogaaGreat
open Go Am
theorem SlV.capOf {h : Heap} {B size : Nat} {v : V} {n : Nat} {vs : List V} (H : SlO B h size v n vs) : ∀ b off l c, v = .slice b off l c → l ≤ c := by
  intro b off l c e
  subst e
  obtain ⟨_, rfl, _, _, q, _⟩ := H
  exact q
theorem intsV_take (l : List Int) (k : Nat) : (intsV l).take k = intsV (l.take k) := by
  induction l generalizing k with
  | nil => simp [intsV]
  | cons x l ih => cases k <;> simp [intsV, ih]
end Go.Proofs.YtjbiefneffiogaaGreat

namespace Go.Proofs.YtjbiefneffiogaaGreat
open Go Am
end Go.Proofs.YtjbiefneffiogaaGreat

namespace Go.Proofs.YtjbiefneffiogaaGreat
open Go Am
theorem usedA_cons (b : List Int) (q : At) (a : List At) : usedA b (q :: a) = (if q.k = 1 ∧ b.contains q.n = false then [q.n] else []) ++ usedA b a := by
  unfold usedA
  by_cases h1 : q.k = 1
  · by_cases h2 : q.n ∈ b
    · simp [List.filter_cons, h1, h2]
    · simp [List.filter_cons, h1, h2]
  · simp [List.filter_cons, h1]
theorem orders_at (late : Bool) (x : Int) : ∀ (l : List Co) (j i : Nat) (d : Co), l[i]? = some d → (order d).length + (if (late && j + i == 1) = true then 1 else 0) ≤ (orders late x l j).length
  | [], _, _, _, h => by simp at h
  | c :: l, j, 0, d, h => by
    simp only [List.getElem?_cons_zero, Option.some.injEq] at h
    subst h
    simp only [orders, List.length_append, Nat.add_zero]
    split <;> simp <;> omega
  | c :: l, j, i + 1, d, h => by
    have := orders_at late x l (j + 1) i d (by simpa using h)
    simp only [orders, List.length_append]
    rw [show j + 1 + i = j + (i + 1) from by omega] at this
    omega
end Go.Proofs.YtjbiefneffiogaaGreat

namespace Go.Proofs.YtjbiefneffiogaaGreat
open Go Am
def esC : List (Int × Int × Nat) → List ME
  | [] => []
  | (x, v, n) :: l => ⟨.int .i64 x, .int .i64 v, n⟩ :: esC l
def chas (k : Int) : List (Int × Int × Nat) → Bool
  | [] => false
  | (x, _, _) :: l => decide (k = x) || chas k l
def cget (k : Int) : List (Int × Int × Nat) → Int
  | [] => 0
  | (x, v, _) :: l => if k = x then v else cget k l
def cput (k v : Int) (c : Nat) : List (Int × Int × Nat) → List (Int × Int × Nat)
  | [] => [(k, v, c)]
  | (x, w, n) :: l => if k = x then (x, v, n) :: l else (x, w, n) :: cput k v c l
theorem cget_no {k : Int} : ∀ {l : List (Int × Int × Nat)}, chas k l = false → cget k l = 0
  | [], _ => rfl
  | (x, v, n) :: l, h => by
    simp only [chas, Bool.or_eq_false_iff, decide_eq_false_iff_not] at h
    simp only [cget, if_neg h.1, cget_no h.2]
theorem cget_put (k v : Int) (c : Nat) (k' : Int) : ∀ l : List (Int × Int × Nat), cget k' (cput k v c l) = if k' = k then v else cget k' l
  | [] => by simp only [cput, cget]
  | (x, w, n) :: l => by
    have ih := cget_put k v c k' l
    by_cases h : k = x
    · subst h
      rw [cput, if_pos rfl, cget, cget]
      split <;> simp_all
    · simp only [cput, if_neg h, cget, ih]
      by_cases h' : k' = x
      · have : ¬ k' = k := by omega
        simp only [if_pos h', if_neg this]
      · simp only [if_neg h']
theorem find_esC {k : Int} : ∀ (l : List (Int × Int × Nat)), findV KK.int.eq (.int .i64 k) (esC l) = some (if chas k l then some (.int .i64 (cget k l)) else none)
  | [] => rfl
  | (x, v, n) :: l => by
    have ih := find_esC (k := k) l
    by_cases h : k = x
    · subst h
      rw [show chas k ((k, v, n) :: l) = true from by simp [chas], if_pos rfl, show cget k ((k, v, n) :: l) = v from by simp [cget]]
      simp only [esC, findV, KK.eq, eqIntC, V.onInt, show eqKind .i64 .i64 = true from rfl, cond_true, eqB_dec]
      simp
    · rw [show chas k ((x, v, n) :: l) = chas k l from by simp [chas, h], show cget k ((x, v, n) :: l) = cget k l from by simp [cget, h], ← ih]
      simp only [esC, findV, KK.eq, eqIntC, V.onInt, show eqKind .i64 .i64 = true from rfl, cond_true, eqB_dec]
      rw [decide_eq_false h, cond_false]
theorem put_esC {k v : Int} {c : Nat} : ∀ (l : List (Int × Int × Nat)), putV KK.int.eq (.int .i64 k) (.int .i64 v) c (esC l) = some (esC (cput k v c l), !chas k l)
  | [] => rfl
  | (x, w, n) :: l => by
    have ih := put_esC (k := k) (v := v) (c := c) l
    simp only [esC, chas, cput, putV, KK.eq, eqIntC, V.onInt, show eqKind .i64 .i64 = true from rfl, cond_true, eqB_dec] at ih ⊢
    by_cases h : k = x
    · subst h; simp [esC]
    · rw [decide_eq_false h, if_neg h, cond_false, ih]
      simp [esC]
def CntIn (h : Heap) (b : Pa) (f : Int → Int) : Prop := ∃ L c, h.get b = .mp (esC L) c ∧ ∀ k, cget k L = f k
theorem CntIn.look {h : Heap} {b : Pa} {f : Int → Int} (H : CntIn h b f) (k : Int) : lookupV KK.int.eq (.int .i64 0) false h (.map b) (.int .i64 k) = some (.int .i64 (f k)) := by
  obtain ⟨L, c, h1, h2⟩ := H
  simp only [lookupV, mapSee, h1, Blk.onMap, find_esC, cond_false, ← h2 k]
  cases e : chas k L with
  | true => rfl
  | false => rw [cget_no e]; rfl
theorem CntIn.upd {h : Heap} {b : Pa} {f : Int → Int} (H : CntIn h b f) (k v : Int) : ∃ B, updV KK.int.eq h (.map b) (.int .i64 k) (.int .i64 v) = some (h.set b B) ∧ CntIn (h.set b B) b (fun n => if n = k then v else f n) := by
  obtain ⟨L, c, h1, h2⟩ := H
  refine ⟨.mp (esC (cput k v c L)) (bif !chas k L then c + 1 else c), by simp only [updV, h1, Blk.onMap, put_esC], _, _, by rw [get_set, if_pos rfl], fun n => ?_⟩
  rw [cget_put, h2]
theorem CntIn.mod {h h' : Heap} {b : Pa} {f g : Int → Int} (H : CntIn h b f) (e : h'.get b = h.get b) (hf : ∀ n, f n = g n) : CntIn h' b g := by
  obtain ⟨L, c, h1, h2⟩ := H
  exact ⟨L, c, e.trans h1, fun k => (h2 k).trans (hf k)⟩
theorem put_esT_in {k : Int} {c : Nat} : ∀ (l : List Int) (n : Nat), l.contains k = true → putV KK.int.eq (.int .i64 k) (.bool true) c (esT l n) = some (esT l n, false)
  | [], _, h => by simp at h
  | x :: l, n, h => by
    have ih := put_esT_in (k := k) (c := c) l (n + 1)
    simp only [esT, putV, KK.eq, eqIntC, V.onInt, show eqKind .i64 .i64 = true from rfl, cond_true, eqB_dec] at ih ⊢
    by_cases hx : k = x
    · subst hx; simp
    · rw [decide_eq_false hx, cond_false, ih (by simpa [hx] using h)]
def addS (l : List Int) (k : Int) : List Int := if l.contains k then l else l ++ [k]
theorem mem_addS {l : List Int} {k z : Int} : z ∈ addS l k ↔ z ∈ l ∨ z = k := by
  unfold addS
  split
  · rename_i h
    rw [List.contains_iff_mem] at h
    constructor
    · exact .inl
    · rintro (q | rfl)
      · exact q
      · exact h
  · simp
theorem addS_nodup {l : List Int} {k : Int} (h : l.Nodup) : (addS l k).Nodup := by
  unfold addS
  split
  · exact h
  · rename_i hk
    have hk' : k ∉ l := by simpa using hk
    rw [List.nodup_append]
    exact ⟨h, by simp, fun a ha b hb => by simp only [List.mem_singleton] at hb; subst hb; exact fun e => hk' (e ▸ ha)⟩
theorem upd_addS {h : Heap} {b : Pa} {l : List Int} (hg : h.get b = .mp (esT l 0) l.length) (k : Int) : updV KK.int.eq h (.map b) (.int .i64 k) (.bool true) = some (h.set b (.mp (esT (addS l k) 0) (addS l k).length)) := by
  cases hk : l.contains k with
  | false => rw [upd_esT hg hk, addS, if_neg (by rw [hk]; simp)]
  | true =>
    simp only [updV, hg, Blk.onMap, put_esT_in l 0 hk, cond_false]
    rw [addS, if_pos hk]
end Go.Proofs.YtjbiefneffiogaaGreat

namespace Go.Proofs.YtjbiefneffiogaaGreat
open Go Am
structure UbS (hb h : Heap) (pb po pg mb mo : Pa) (f : Int → Int) (l : List Int) : Prop where
  ext : Ext hb h
  hpb : h.get pb = .ofL [.map mb] 0 false
  hpo : h.get po = .ofL [.map mo] 0 false
  hpg : h.get pg = .ofL [.func 66 [.ptr pb 0, .ptr po 0, .ptr pg 0]] 0 false
  old : ∀ b, b = pb ∨ b = po ∨ b = pg ∨ b = mb ∨ b = mo → Old h b ∧ hb.next ≤ unPa b
  nb : ∀ b, b = pb ∨ b = po ∨ b = pg → b ≠ mb ∧ b ≠ mo
  mm : mb ≠ mo
  cnt : CntIn h mb f
  out : h.get mo = .mp (esT l 0) l.length
  nd : l.Nodup
def MM (mb mo : Pa) (b : Pa) : Prop := b = mb ∨ b = mo
theorem UbS.keep {hb h h' : Heap} {pb po pg mb mo : Pa} {f : Int → Int} {l : List Int} (S : UbS hb h pb po pg mb mo f l) (e : Ext h h') : UbS hb h' pb po pg mb mo f l :=
  ⟨S.ext.trans e, by rw [e.get _ (S.old _ (by simp)).1]; exact S.hpb, by rw [e.get _ (S.old _ (by simp)).1]; exact S.hpo, by rw [e.get _ (S.old _ (by simp)).1]; exact S.hpg,
    fun b hb => ⟨e.old (S.old b hb).1, (S.old b hb).2⟩, S.nb, S.mm, S.cnt.mod (e.get _ (S.old _ (by simp)).1) fun _ => rfl, by rw [e.get _ (S.old _ (by simp)).1]; exact S.out, S.nd⟩
theorem UbS.inc {hb h : Heap} {pb po pg mb mo : Pa} {f : Int → Int} {l : List Int} (S : UbS hb h pb po pg mb mo f l) (k v : Int) :
    ∃ h', updV KK.int.eq h (.map mb) (.int .i64 k) (.int .i64 v) = some h' ∧ UbS hb h' pb po pg mb mo (fun n => if n = k then v else f n) l ∧ h'.next = h.next ∧ ∀ b, b ≠ mb → h'.get b = h.get b := by
  obtain ⟨B, h1, h2⟩ := S.cnt.upd k v
  have hg : ∀ b, b ≠ mb → (h.set mb B).get b = h.get b := fun b hb => by rw [get_set, if_neg (fun e => hb e.symm)]
  refine ⟨_, h1, ⟨?_, ?_, ?_, ?_, fun b hb => ⟨by have := (S.old b hb).1; unfold Old at this ⊢; rw [next_set]; exact this, (S.old b hb).2⟩, S.nb, S.mm, h2, ?_, S.nd⟩, next_set _ _ _, hg⟩
  · exact S.ext.mod_new (M := fun q => q = mb) ((Mod.refl (fun q => q = mb) h).set (fun _ => rfl) _) (fun b hb => by rw [hb]; exact (S.old _ (by simp)).2)
  · rw [hg _ (S.nb _ (by simp)).1]; exact S.hpb
  · rw [hg _ (S.nb _ (by simp)).1]; exact S.hpo
  · rw [hg _ (S.nb _ (by simp)).1]; exact S.hpg
  · rw [hg _ (fun e => S.mm e.symm)]; exact S.out
theorem UbS.add {hb h : Heap} {pb po pg mb mo : Pa} {f : Int → Int} {l : List Int} (S : UbS hb h pb po pg mb mo f l) (k : Int) :
    ∃ h', updV KK.int.eq h (.map mo) (.int .i64 k) (.bool true) = some h' ∧ UbS hb h' pb po pg mb mo f (addS l k) ∧ h'.next = h.next ∧ ∀ b, b ≠ mo → h'.get b = h.get b := by
  have h1 := upd_addS S.out k
  have hg : ∀ b, b ≠ mo → (h.set mo (.mp (esT (addS l k) 0) (addS l k).length)).get b = h.get b := fun b hb => by rw [get_set, if_neg (fun e => hb e.symm)]
  refine ⟨_, h1, ⟨?_, ?_, ?_, ?_, fun b hb => ⟨by have := (S.old b hb).1; unfold Old at this ⊢; rw [next_set]; exact this, (S.old b hb).2⟩, S.nb, S.mm, ?_, by rw [get_set, if_pos rfl], addS_nodup S.nd⟩, next_set _ _ _, hg⟩
  · exact S.ext.mod_new (M := fun q => q = mo) ((Mod.refl (fun q => q = mo) h).set (fun _ => rfl) _) (fun b hb => by rw [hb]; exact (S.old _ (by simp)).2)
  · rw [hg _ (S.nb _ (by simp)).2]; exact S.hpb
  · rw [hg _ (S.nb _ (by simp)).2]; exact S.hpo
  · rw [hg _ (S.nb _ (by simp)).2]; exact S.hpg
  · exact S.cnt.mod (hg _ S.mm) fun _ => rfl
structure UbF (hb h : Heap) (pb po pg mb mo : Pa) (bx : List V) (h' : Heap) (f : Int → Int) (l : List Int) : Prop where
  s : UbS hb h' pb po pg mb mo f l
  m : Mod (MM mb mo) h h'
  n : h.next < h'.next
  b : h'.get (pa h.next) = .ofL bx 0 false
  ob : ∀ b, MM mb mo b → unPa b < h.next
theorem UbF.ne {hb h : Heap} {pb po pg mb mo : Pa} {bx : List V} {h' : Heap} {f : Int → Int} {l : List Int} (F : UbF hb h pb po pg mb mo bx h' f l) : pa h.next ≠ mb ∧ pa h.next ≠ mo := by
  constructor
  · intro e; have := F.ob mb (.inl rfl); rw [← e, unPa_pa] at this; omega
  · intro e; have := F.ob mo (.inr rfl); rw [← e, unPa_pa] at this; omega
theorem UbF.keep {hb h : Heap} {pb po pg mb mo : Pa} {bx : List V} {h' h'' : Heap} {f : Int → Int} {l : List Int} (F : UbF hb h pb po pg mb mo bx h' f l) (e : Ext h' h'') : UbF hb h pb po pg mb mo bx h'' f l :=
  ⟨F.s.keep e, F.m.trans (e.mod _), Nat.lt_of_lt_of_le F.n e.next, by rw [e.get _ (old_lt F.n)]; exact F.b, F.ob⟩
theorem UbF.inc {hb h : Heap} {pb po pg mb mo : Pa} {bx : List V} {h' : Heap} {f : Int → Int} {l : List Int} (F : UbF hb h pb po pg mb mo bx h' f l) (k v : Int) :
    ∃ h'', updV KK.int.eq h' (.map mb) (.int .i64 k) (.int .i64 v) = some h'' ∧ UbF hb h pb po pg mb mo bx h'' (fun n => if n = k then v else f n) l ∧ Mod (MM mb mo) h' h'' ∧ h''.next = h'.next ∧ (∀ b, b ≠ mb → h''.get b = h'.get b) := by
  obtain ⟨h'', h1, h2, h3, h4⟩ := F.s.inc k v
  have hm : Mod (MM mb mo) h' h'' := ⟨by omega, fun b hb hn => h4 b (fun e => hn (.inl e))⟩
  exact ⟨h'', h1, ⟨h2, F.m.trans hm, by have := F.n; omega, by rw [h4 _ F.ne.1]; exact F.b, F.ob⟩, hm, h3, h4⟩
theorem UbF.add {hb h : Heap} {pb po pg mb mo : Pa} {bx : List V} {h' : Heap} {f : Int → Int} {l : List Int} (F : UbF hb h pb po pg mb mo bx h' f l) (k : Int) :
    ∃ h'', updV KK.int.eq h' (.map mo) (.int .i64 k) (.bool true) = some h'' ∧ UbF hb h pb po pg mb mo bx h'' f (addS l k) ∧ Mod (MM mb mo) h' h'' ∧ h''.next = h'.next ∧ (∀ b, b ≠ mo → h''.get b = h'.get b) := by
  obtain ⟨h'', h1, h2, h3, h4⟩ := F.s.add k
  have hm : Mod (MM mb mo) h' h'' := ⟨by omega, fun b hb hn => h4 b (fun e => hn (.inr e))⟩
  exact ⟨h'', h1, ⟨h2, F.m.trans hm, by have := F.n; omega, by rw [h4 _ F.ne.2]; exact F.b, F.ob⟩, hm, h3, h4⟩
theorem UbF.call {hb h : Heap} {pb po pg mb mo : Pa} {bx : List V} {h' h'' : Heap} {f g : Int → Int} {l m : List Int} (F : UbF hb h pb po pg mb mo bx h' f l) (s : UbS hb h'' pb po pg mb mo g m) (hm : Mod (MM mb mo) h' h'') : UbF hb h pb po pg mb mo bx h'' g m :=
  ⟨s, F.m.trans hm, Nat.lt_of_lt_of_le F.n hm.next, by rw [hm.get _ (old_lt F.n) (fun e => e.elim F.ne.1 F.ne.2)]; exact F.b, F.ob⟩
theorem bump {f : Int → Int} {k : Int} {l : List Int} {m : List Int} (h : m = l ++ [k]) : (fun n => if n = k then (f k + (l.count k : Int)) + 1 else f n + (l.count n : Int)) = fun n => f n + (m.count n : Int) := by
  funext n
  subst h
  rw [List.count_append, List.count_singleton]
  by_cases e : n = k
  · subst e; simp; omega
  · have : ¬ (k == n) = true := by simpa using fun q => e q.symm
    rw [if_neg e, if_neg this]; simp
theorem drops {f : Int → Int} {k : Int} {l : List Int} {m : List Int} (h : m = k :: l) : (fun n => if n = k then (f k + (m.count k : Int)) - 1 else f n + (m.count n : Int)) = fun n => f n + (l.count n : Int) := by
  funext n
  subst h
  rw [List.count_cons, List.count_cons]
  by_cases e : n = k
  · subst e; simp; omega
  · have : ¬ (k == n) = true := by simpa using fun q => e q.symm
    rw [if_neg e, if_neg this]; simp
end Go.Proofs.YtjbiefneffiogaaGreat

namespace Go.Proofs.YtjbiefneffiogaaGreat
open Go Am
theorem ats_atx {h : Heap} {l : List At} {v : V} (H : SlV h 3 v l.length (atsV l)) {k : IntKind} {i : Nat} (hi : i < l.length) {h' : Heap} (e : Ext h h') :
    ∃ b off, iaV 3 v (.int k i) = some (.ptr b (off + i * 3)) ∧ ldnB 3 (h'.get b) (off + i * 3) = some (.agg [.int .i64 l[i].k, .int .i64 l[i].n, .str l[i].s]) := by
  obtain ⟨b, o, h1, h2, _⟩ := ats_at (H.ext e) (k := k) hi
  exact ⟨b, o, h1, h2⟩
set_option maxHeartbeats 4000000 in
set_option maxRecDepth 20000 in
theorem ub_ctr : ∀ (N : Nat) (c : Co), size c ≤ N → fit 1048576 c → okC c → ∀ (vs : List V) (hb : Heap), CoIn hb c vs → ∀ (h : Heap) (pb po pg mb mo : Pa) (f : Int → Int) (l b : List Int), UbS hb h pb po pg mb mo f l →
    (∀ n, 0 ≤ f n ∧ f n + (order c).length ≤ 1000000000) → (∀ n, f n = 0 ↔ n ∉ b) →
    Ctr Tryz.prog 66 [.agg vs, .ptr pb 0, .ptr po 0, .ptr pg 0] h fun x h' => ∃ l', UbS hb h' pb po pg mb mo f l' ∧ (∀ z, z ∈ l' ↔ z ∈ l ∨ z ∈ free c b) ∧ Mod (MM mb mo) h h'
  | 0, c, hs, _, _, _, _, _, _, _, _, _, _, _, _, _, _, _, _, _ => by have := size_pos c; omega
  | N + 1, c, hs, hf, hok, vs, hb, H, h, pb, po, pg, mb, mo, f, l, b, S, hfb, hfz => by
    obtain ⟨f1, f2, f3, f4, f5⟩ := hf.kids
    have hsl := size_l c
    obtain ⟨va, vt, vl, rfl, Ha, Ht, Hl⟩ := H.open
    have hok' : (c.k = 8 → 1 ≤ c.l.length) ∧ c.k ≠ 14 ∧ (lateB c.k = true → c.l.length = 2) ∧ oks c.l := by cases c; exact hok
    obtain ⟨k1, k2, k3, k4⟩ := hok'
    have hord : order c = ownNames c.k c.x c.l ++ orders (lateB c.k) c.x c.l 0 := by cases c; rfl
    have hfree : free c b = usedA b c.a ++ frees (lateB c.k) c.x c.l (b ++ ownNames c.k c.x c.l) 0 := by cases c; rfl
    have hordl := congrArg List.length hord
    rw [List.length_append] at hordl
    refine c66_ctr rfl (wpK_of ?_)
    unfold c66
    have e0 : Ext h (h.new (.ofL [.int .i64 c.k, .int .i64 c.x, .int .i64 c.n, .str c.s, va, vt, vl] 0 false)) := (Ext.refl h).new _
    have hL0 := (Ha.ext (S.ext.trans e0)).len
    have hob : ∀ q, MM mb mo q → unPa q < h.next := fun q hq => by
      rcases hq with rfl | rfl
      · exact (S.old _ (by simp)).1
      · exact (S.old _ (by simp)).1
    have F0 : UbF hb h pb po pg mb mo [.int .i64 c.k, .int .i64 c.x, .int .i64 c.n, .str c.s, va, vt, vl] (h.new (.ofL [.int .i64 c.k, .int .i64 c.x, .int .i64 c.n, .str c.s, va, vt, vl] 0 false)) f l :=
      ⟨S.keep e0, e0.mod _, by rw [next_new]; omega, get_new_self _, hob⟩
    simp +contextual only [hL0, ↓wA, wC, Ex.ends, evR, oneOf, top, ↓reduceIte, Nat.reduceEqDiff, Nat.reduceLeDiff, Nat.reduceAdd, Nat.reduceSub, Nat.reduceMul, reduceCtorEq, Int.reduceEq, Int.reduceLT, Int.reduceLE, Int.reduceNeg]
    generalize hH0 : h.new (.ofL [.int .i64 c.k, .int .i64 c.x, .int .i64 c.n, .str c.s, va, vt, vl] 0 false) = H0 at *
    refine loopK_intro (fun r h' => r 1 = .ptr pb 0 ∧ r 2 = .ptr po 0 ∧ r 3 = .ptr pg 0 ∧ r 4 = .ptr (pa h.next) 0 ∧ r 16 = va ∧ r 17 = .int .i64 c.a.length ∧ ∃ (i : Nat) (li : List Int), r 18 = .int .i64 i ∧ i ≤ c.a.length ∧ UbF hb h pb po pg mb mo [.int .i64 c.k, .int .i64 c.x, .int .i64 c.n, .str c.s, va, vt, vl] h' f li ∧
      ∀ z, (z ∈ li ∨ z ∈ usedA b (c.a.drop i)) ↔ (z ∈ l ∨ z ∈ usedA b c.a)) (fun r h' => c.a.length - (r 18).toN) ?_ ?_
    · exact ⟨by simp only [↓wA, wC, ↓reduceIte, Nat.reduceEqDiff, reduceCtorEq], by simp only [↓wA, wC, ↓reduceIte, Nat.reduceEqDiff, reduceCtorEq], by simp only [↓wA, wC, ↓reduceIte, Nat.reduceEqDiff, reduceCtorEq], by simp only [↓wA, wC, ↓reduceIte, Nat.reduceEqDiff, reduceCtorEq], by simp only [↓wA, wC, ↓reduceIte, Nat.reduceEqDiff, reduceCtorEq], by simp only [↓wA, wC, ↓reduceIte, Nat.reduceEqDiff, reduceCtorEq], 0, l, by simp only [↓wA, wC, ↓reduceIte, Nat.reduceEqDiff, reduceCtorEq] <;> rfl, by omega, F0, fun z => by rw [List.drop_zero]⟩
    · rintro r g ⟨r1, r2, r3, r4, r16, r17, i, li, r18, hi, F, hz⟩
      unfold c66l1
      by_cases hlt : i < c.a.length
      · have g0 : ((i : Int) < (c.a.length : Int)) = True := eq_true (by omega)
        obtain ⟨bb, o, ia, ldn⟩ := ats_atx Ha (k := .i64) hlt F.s.ext
        have wi := w_inc hlt (by omega)
        rw [List.drop_eq_getElem_cons hlt, usedA_cons] at hz
        generalize c.a[i] = q at *
        have e1 : Ext g ((g.new (.ofL [.int .i64 0, .int .i64 0, .str []] 0 false)).set (pa g.next) (.ofL [.int .i64 q.k, .int .i64 q.n, .str q.s] 0 false)) := ((Ext.refl g).new _).set (Nat.le_refl _) _
        have F1 := F.keep e1
        have lk := F1.s.cnt.look q.n
        obtain ⟨g2, u1, F2, u3, u4, u5⟩ := F1.add q.n
        have nlt : ∀ p, p = pb ∨ p = po ∨ p = pg ∨ p = mb ∨ p = mo → unPa p < g.next := fun p hp => (F.s.old p hp).1
        have nepb : (pa g.next = pb) = False := eq_false (fun e => by have := nlt pb (by simp); rw [← e, unPa_pa] at this; omega)
        have nepo : (pa g.next = po) = False := eq_false (fun e => by have := nlt po (by simp); rw [← e, unPa_pa] at this; omega)
        have nebx : (g.next = h.next) = False := eq_false (by have := F.n; omega)
        by_cases hq : q.k = 1
        · have eq := eq_true hq
          by_cases h0 : f q.n = 0
          · have ez := eq_true h0
            have hnb : b.contains q.n = false := by rw [← Bool.not_eq_true, List.contains_iff_mem]; exact (hfz _).1 h0
            rw [if_pos ⟨hq, hnb⟩] at hz
            simp +contextual only [r1, r2, r3, r4, r16, r17, r18, g0, ia, ldn, eq, ez, lk, u1, nepb, nepo, F.s.hpb, F.s.hpo, wi, ↓wA, wC, Ex.ends, evR, oneOf, top, ↓reduceIte, Nat.reduceEqDiff, Nat.reduceLeDiff, Nat.reduceAdd, Nat.reduceSub, Nat.reduceMul, reduceCtorEq, Int.reduceEq, Int.reduceLT, Int.reduceLE, Int.reduceNeg]
            exact ⟨⟨i + 1, addS li q.n, rfl, hlt, F2, fun z => by rw [← hz z, mem_addS]; simp only [List.mem_append, List.mem_singleton]; grind⟩, by omega⟩
          · have ez := eq_false h0
            have hnb : b.contains q.n = true := by
              rw [List.contains_iff_mem]
              exact Decidable.byContradiction fun e => h0 ((hfz _).2 e)
            rw [if_neg (fun p => by rw [hnb] at p; exact absurd p.2 (by simp)), List.nil_append] at hz
            simp +contextual only [r1, r2, r3, r4, r16, r17, r18, g0, ia, ldn, eq, ez, lk, u1, nepb, nepo, F.s.hpb, F.s.hpo, wi, ↓wA, wC, Ex.ends, evR, oneOf, top, ↓reduceIte, Nat.reduceEqDiff, Nat.reduceLeDiff, Nat.reduceAdd, Nat.reduceSub, Nat.reduceMul, reduceCtorEq, Int.reduceEq, Int.reduceLT, Int.reduceLE, Int.reduceNeg]
            exact ⟨⟨i + 1, li, rfl, hlt, F1, hz⟩, by omega⟩
        · have eq := eq_false hq
          rw [if_neg (fun p => hq p.1), List.nil_append] at hz
          simp +contextual only [r1, r2, r3, r4, r16, r17, r18, g0, ia, ldn, eq, lk, u1, nepb, nepo, F.s.hpb, F.s.hpo, wi, ↓wA, wC, Ex.ends, evR, oneOf, top, ↓reduceIte, Nat.reduceEqDiff, Nat.reduceLeDiff, Nat.reduceAdd, Nat.reduceSub, Nat.reduceMul, reduceCtorEq, Int.reduceEq, Int.reduceLT, Int.reduceLE, Int.reduceNeg]
          exact ⟨⟨i + 1, li, rfl, hlt, F1, hz⟩, by omega⟩
      · have g0 : ((i : Int) < (c.a.length : Int)) = False := eq_false (by omega)
        rw [List.drop_eq_nil_of_le (by omega), show usedA b [] = [] from rfl] at hz
        simp +contextual only [r1, r2, r3, r4, r16, r17, r18, g0, F.b, ↓wA, wC, Ex.ends, evR, oneOf, top, ↓reduceIte, Nat.reduceEqDiff, Nat.reduceLeDiff, Nat.reduceAdd, Nat.reduceSub, Nat.reduceMul, reduceCtorEq, Int.reduceEq, Int.reduceLT, Int.reduceLE, Int.reduceNeg]
        refine callK_intro (binds_ctr c _ _ (H.ext F.s.ext) hf k1 k2) ?_
        rintro x g1 ⟨hown, hx1⟩
        have F1 := F.keep hx1
        have hz1 : ∀ z, z ∈ li ↔ z ∈ l ∨ z ∈ usedA b c.a := fun z => by rw [← hz z]; simp
        have hxo : ∀ p, x.blk p → ¬ MM mb mo p := fun p q1 q2 => by
          have := hown.base q1
          have := hob p q2
          have := F.n
          omega
        have hown1 := hown.v
        have hLo := hown1.len
        have hol : (ownNames c.k c.x c.l).length ≤ (order c).length := by omega
        generalize hon : ownNames c.k c.x c.l = own at *
        have hol2 : own.length ≤ 1000000000 := by have := hfb 0; omega
        clear hown hL0 hz g0 hlt hi r18
        simp +contextual only [hLo, ↓wA, wC, Ex.ends, evR, oneOf, top, ↓reduceIte, Nat.reduceEqDiff, Nat.reduceLeDiff, Nat.reduceAdd, Nat.reduceSub, Nat.reduceMul, reduceCtorEq, Int.reduceEq, Int.reduceLT, Int.reduceLE, Int.reduceNeg]
        refine loopK_intro (fun r h' => r 1 = .ptr pb 0 ∧ r 2 = .ptr po 0 ∧ r 3 = .ptr pg 0 ∧ r 4 = .ptr (pa h.next) 0 ∧ r 7 = x ∧ r 38 = x ∧ r 39 = .int .i64 own.length ∧ SlV h' 1 x own.length (intsV own) ∧ ∃ (i : Nat), r 40 = .int .i64 i ∧ i ≤ own.length ∧ UbF hb h pb po pg mb mo [.int .i64 c.k, .int .i64 c.x, .int .i64 c.n, .str c.s, va, vt, vl] h' (fun n => f n + ((own.take i).count n : Int)) li) (fun r h' => own.length - (r 40).toN) ?_ ?_
        · exact ⟨by simp only [r1, ↓wA, wC, ↓reduceIte, Nat.reduceEqDiff, reduceCtorEq], by simp only [r2, ↓wA, wC, ↓reduceIte, Nat.reduceEqDiff, reduceCtorEq], by simp only [r3, ↓wA, wC, ↓reduceIte, Nat.reduceEqDiff, reduceCtorEq], by simp only [r4, ↓wA, wC, ↓reduceIte, Nat.reduceEqDiff, reduceCtorEq], by simp only [↓wA, wC, ↓reduceIte, Nat.reduceEqDiff, reduceCtorEq], by simp only [↓wA, wC, ↓reduceIte, Nat.reduceEqDiff, reduceCtorEq], by simp only [↓wA, wC, ↓reduceIte, Nat.reduceEqDiff, reduceCtorEq], hown1, 0, by simp only [↓wA, wC, ↓reduceIte, Nat.reduceEqDiff, reduceCtorEq] <;> rfl, by omega, by simpa using F1⟩
        · clear r1 r2 r3 r4 r16 r17 hown1
          rintro r g ⟨r1, r2, r3, r4, r7, r38, r39, hx, i, r40, hi, F⟩
          unfold c66l2
          by_cases hlt : i < own.length
          · have g0 : ((i : Int) < (own.length : Int)) = True := eq_true (by omega)
            obtain ⟨bb, o, ia, ld⟩ := ints_at hx (k := .i64) hlt
            have wi := w_inc hlt (by omega)
            have htk : own.take (i + 1) = own.take i ++ [own[i]] := by rw [List.take_add_one, List.getElem?_eq_getElem hlt]; rfl
            generalize own[i] = k at *
            have lk := F.s.cnt.look k
            have hcl : (own.take i).count k ≤ own.length := Nat.le_trans List.count_le_length (by rw [List.length_take]; omega)
            have hfk := hfb k
            have w1 : IntKind.i64.wrap (f k + ((own.take i).count k : Int) + 1) = f k + ((own.take i).count k : Int) + 1 := wrap_i64 (by omega) (by omega)
            obtain ⟨g2, u1, F2, u3, u4, u5⟩ := F.inc k (f k + ((own.take i).count k : Int) + 1)
            rw [bump htk] at F2
            simp +contextual only [r1, r2, r3, r4, r7, r38, r39, r40, g0, ia, ld, F.s.hpb, lk, w1, u1, wi, ↓wA, wC, Ex.ends, evR, oneOf, top, ↓reduceIte, Nat.reduceEqDiff, Nat.reduceLeDiff, Nat.reduceAdd, Nat.reduceSub, Nat.reduceMul, reduceCtorEq, Int.reduceEq, Int.reduceLT, Int.reduceLE, Int.reduceNeg]
            exact ⟨⟨hx.mod u3 hxo, i + 1, rfl, hlt, F2⟩, by omega⟩
          · have g0 : ((i : Int) < (own.length : Int)) = False := eq_false (by omega)
            rw [List.take_of_length_le (by omega)] at F
            have hLl := (Hl.ext F.s.ext).len
            simp +contextual only [r1, r2, r3, r4, r7, r38, r39, r40, g0, F.b, hLl, ↓wA, wC, Ex.ends, evR, oneOf, top, ↓reduceIte, Nat.reduceEqDiff, Nat.reduceLeDiff, Nat.reduceAdd, Nat.reduceSub, Nat.reduceMul, reduceCtorEq, Int.reduceEq, Int.reduceLT, Int.reduceLE, Int.reduceNeg]
            refine loopK_intro (fun r h' => r 1 = .ptr pb 0 ∧ r 2 = .ptr po 0 ∧ r 3 = .ptr pg 0 ∧ r 4 = .ptr (pa h.next) 0 ∧ r 7 = x ∧ r 50 = vl ∧ r 51 = .int .i64 c.l.length ∧ SlV h' 1 x own.length (intsV own) ∧ ∃ (i : Nat) (li : List Int), r 52 = .int .i64 i ∧ i ≤ c.l.length ∧ UbF hb h pb po pg mb mo [.int .i64 c.k, .int .i64 c.x, .int .i64 c.n, .str c.s, va, vt, vl] h' (fun n => f n + (own.count n : Int)) li ∧
              ∀ z, (z ∈ li ∨ z ∈ frees (lateB c.k) c.x (c.l.drop i) (b ++ own) i) ↔ (z ∈ l ∨ z ∈ free c b)) (fun r h' => c.l.length - (r 52).toN) ?_ ?_
            · exact ⟨by simp only [r1, ↓wA, wC, ↓reduceIte, Nat.reduceEqDiff, reduceCtorEq], by simp only [r2, ↓wA, wC, ↓reduceIte, Nat.reduceEqDiff, reduceCtorEq], by simp only [r3, ↓wA, wC, ↓reduceIte, Nat.reduceEqDiff, reduceCtorEq], by simp only [r4, ↓wA, wC, ↓reduceIte, Nat.reduceEqDiff, reduceCtorEq], by simp only [r7, ↓wA, wC, ↓reduceIte, Nat.reduceEqDiff, reduceCtorEq], by simp only [↓wA, wC, ↓reduceIte, Nat.reduceEqDiff, reduceCtorEq], by simp only [↓wA, wC, ↓reduceIte, Nat.reduceEqDiff, reduceCtorEq], hx, 0, li, by simp only [↓wA, wC, ↓reduceIte, Nat.reduceEqDiff, reduceCtorEq] <;> rfl, by omega, F, fun z => by rw [hfree, List.drop_zero, hz1 z, List.mem_append]; grind⟩
            · clear r1 r2 r3 r4 r7 r38 r39 r40 hx F hz1 hlt g0 hi F1 hLo hLl
              rintro r g ⟨r1, r2, r3, r4, r7, r50, r51, hx, i, li, r52, hi, F, hz⟩
              unfold c66l3
              by_cases hlt : i < c.l.length
              · have g0 : ((i : Int) < (c.l.length : Int)) = True := eq_true (by omega)
                obtain ⟨bb, o, u, ia, hu, lds⟩ := Hl.atx (k := .i64) hlt
                have ld := (lds g F.s.ext).1
                have wi := w_inc hlt (by omega)
                rw [List.drop_eq_getElem_cons hlt, frees] at hz
                have hfi : c.l[i]? = some c.l[i] := List.getElem?_eq_getElem hlt
                have hoa := orders_at (lateB c.k) c.x c.l 0 i _ hfi
                have hsz := size_idx hfi
                generalize hfd : c.l[i] = d at *
                obtain ⟨fa, ft, fl, rfl, Fa, Ft, Fl⟩ := hu.open
                have o1 := Fa.one.1
                have o2 := Ft.one.1
                have o3 := Fl.one.1
                have e1 : Ext g ((g.new (.ofL [.int .i64 0, .int .i64 0, .int .i64 0, .str [], .nilslice, .nilslice, .nilslice] 0 false)).set (pa g.next) (.ofL [.int .i64 d.k, .int .i64 d.x, .int .i64 d.n, .str d.s, fa, ft, fl] 0 false)) := ((Ext.refl g).new _).set (Nat.le_refl _) _
                have F1 := F.keep e1
                have hx1 := hx.ext e1
                have gn : ((g.new (.ofL [.int .i64 0, .int .i64 0, .int .i64 0, .str [], .nilslice, .nilslice, .nilslice] 0 false)).set (pa g.next) (.ofL [.int .i64 d.k, .int .i64 d.x, .int .i64 d.n, .str d.s, fa, ft, fl] 0 false)).next = g.next + 1 := by rw [next_set, next_new]
                have gb : ((g.new (.ofL [.int .i64 0, .int .i64 0, .int .i64 0, .str [], .nilslice, .nilslice, .nilslice] 0 false)).set (pa g.next) (.ofL [.int .i64 d.k, .int .i64 d.x, .int .i64 d.n, .str d.s, fa, ft, fl] 0 false)).get (pa g.next) = .ofL [.int .i64 d.k, .int .i64 d.x, .int .i64 d.n, .str d.s, fa, ft, fl] 0 false := by rw [get_set, if_pos rfl]
                have nlt : ∀ p, p = pb ∨ p = po ∨ p = pg ∨ p = mb ∨ p = mo → unPa p < g.next := fun p hp => (F.s.old p hp).1
                have nepb : (pa g.next = pb) = False := eq_false (fun e => by have := nlt pb (by simp); rw [← e, unPa_pa] at this; omega)
                have nepg : (pa g.next = pg) = False := eq_false (fun e => by have := nlt pg (by simp); rw [← e, unPa_pa] at this; omega)
                have nemb : pa g.next ≠ mb := fun e => by have := nlt mb (by simp); rw [← e, unPa_pa] at this; omega
                have nebx : (g.next = h.next) = False := eq_false (by have := F.n; omega)
                have nebx' : (h.next = g.next) = False := eq_false (by have := F.n; omega)
                have kid : ∀ (g : Heap) (fn : Int → Int) (li bn : List Int), UbF hb h pb po pg mb mo [.int .i64 c.k, .int .i64 c.x, .int .i64 c.n, .str c.s, va, vt, vl] g fn li → (∀ n, 0 ≤ fn n ∧ fn n + (order d).length ≤ 1000000000) → (∀ n, fn n = 0 ↔ n ∉ bn) →
                    Ctr Tryz.prog 66 [.agg [.int .i64 d.k, .int .i64 d.x, .int .i64 d.n, .str d.s, fa, ft, fl], .ptr pb 0, .ptr po 0, .ptr pg 0] g fun y g2 => ∃ l', UbF hb h pb po pg mb mo [.int .i64 c.k, .int .i64 c.x, .int .i64 c.n, .str c.s, va, vt, vl] g2 fn l' ∧ (∀ z, z ∈ l' ↔ z ∈ li ∨ z ∈ free d bn) ∧ Mod (MM mb mo) g g2 :=
                  fun g fn li bn F q1 q2 => (ub_ctr N d (by omega) (fits_at f5 hfi) (oks_at k4 hfi) _ hb hu g pb po pg mb mo fn li bn F.s q1 q2).mono fun y g2 ⟨l', s1, s2, s3⟩ => ⟨l', F.call s1 s3, s2, s3⟩
                have hcn : ∀ n, (own.count n : Int) ≤ own.length := fun n => by have := List.count_le_length (a := n) (l := own); omega
                have hz2 : ∀ n, f n + (own.count n : Int) = 0 ↔ n ∉ b ++ own := fun n => by
                  have h1 := hfz n
                  have h2 := (hfb n).1
                  have h3 : own.count n = 0 ↔ n ∉ own := List.count_eq_zero
                  rw [List.mem_append]
                  grind
                by_cases hlate : lateB c.k = true ∧ i = 1
                · obtain ⟨hla, rfl⟩ := hlate
                  have hc1 : (if (lateB c.k && (1 : Nat) == 1) = true then b ++ own ++ [c.x] else b ++ own) = b ++ own ++ [c.x] := by
                    rw [if_pos]
                    rw [hla]; rfl
                  rw [hc1] at hz
                  rw [hla] at hoa
                  have hoa1 : (order d).length + 1 ≤ (orders (lateB c.k) c.x c.l 0).length := by rw [hla]; exact hoa
                  have hcond : (decide (c.k = 2) || decide (c.k = 11)) = true := by simpa [lateB] using hla
                  have hi1 : (((1 : Nat) : Int) = 1) = True := eq_true rfl
                  have lk := F1.s.cnt.look c.x
                  have hfk := hfb c.x
                  have hck := hcn c.x
                  have w1 : IntKind.i64.wrap (f c.x + (own.count c.x : Int) + 1) = f c.x + (own.count c.x : Int) + 1 := wrap_i64 (by omega) (by omega)
                  obtain ⟨g2, u1, F2, u3, u4, u5⟩ := F1.inc c.x (f c.x + (own.count c.x : Int) + 1)
                  have hx2 := hx1.mod u3 hxo
                  have gb2 := (u5 _ nemb).trans gb
                  simp +contextual only [r1, r2, r3, r4, r7, r50, r51, r52, g0, ia, ld, o1, o2, o3, nebx, nebx', nepb, nepg, hi1, F.s.hpb, F.b, hcond, lk, w1, u1, F2.b, F2.s.hpg, gb2, Bool.and_self, ↓wA, wC, Ex.ends, evR, oneOf, top, ↓reduceIte, Nat.reduceEqDiff, Nat.reduceLeDiff, Nat.reduceAdd, Nat.reduceSub, Nat.reduceMul, reduceCtorEq, Int.reduceEq, Int.reduceLT, Int.reduceLE, Int.reduceNeg]
                  refine callK_intro (kid g2 _ li (b ++ own ++ [c.x]) F2 (fun n => ?_) (fun n => ?_)) ?_
                  · have := hfb n
                    have := hcn n
                    split <;> omega
                  · have h1 := hz2 n
                    rw [List.mem_append, List.mem_singleton]
                    by_cases e : n = c.x
                    · subst e
                      rw [if_pos rfl]
                      simp
                      omega
                    · rw [if_neg e, h1]
                      simp [e]
                  rintro y g3 ⟨l', F3, s2, s3⟩
                  have hx3 := hx2.mod s3 hxo
                  have lk3 := F3.s.cnt.look c.x
                  rw [if_pos rfl] at lk3
                  have w2 : IntKind.i64.wrap (f c.x + (own.count c.x : Int) + 1 - 1) = f c.x + (own.count c.x : Int) := by rw [wrap_i64 (by omega) (by omega)]; omega
                  obtain ⟨g4, a1, F4, a3, a4, a5⟩ := F3.inc c.x (f c.x + (own.count c.x : Int))
                  have hf4 : (fun n => if n = c.x then f c.x + (own.count c.x : Int) else if n = c.x then f c.x + (own.count c.x : Int) + 1 else f n + (own.count n : Int)) = fun n => f n + (own.count n : Int) := by
                    funext n
                    by_cases e : n = c.x
                    · subst e; rw [if_pos rfl]
                    · rw [if_neg e, if_neg e]
                  rw [hf4] at F4
                  simp +contextual only [r1, r2, r3, r4, r7, r50, r51, r52, F3.s.hpb, F3.b, lk3, w2, a1, wi, ↓wA, wC, Ex.ends, evR, oneOf, top, ↓reduceIte, Nat.reduceEqDiff, Nat.reduceLeDiff, Nat.reduceAdd, Nat.reduceSub, Nat.reduceMul, reduceCtorEq, Int.reduceEq, Int.reduceLT, Int.reduceLE, Int.reduceNeg]
                  exact ⟨⟨hx3.mod a3 hxo, 2, l', rfl, hlt, F4, fun z => by rw [← hz z, s2 z, List.mem_append]; grind⟩, by omega⟩
                · have hc1 : (if (lateB c.k && i == 1) = true then b ++ own ++ [c.x] else b ++ own) = b ++ own := by
                    rw [if_neg]
                    simp only [Bool.and_eq_true, beq_iff_eq]
                    exact hlate
                  rw [hc1] at hz
                  have hcond : (decide ((i : Int) = 1) && (decide (c.k = 2) || decide (c.k = 11))) = false := by
                    rw [← Bool.not_eq_true, Bool.and_eq_true, decide_eq_true_eq]
                    exact fun ⟨q1, q2⟩ => hlate ⟨q2, by omega⟩
                  by_cases hi1 : (i : Int) = 1
                  · have ei := eq_true hi1
                    have hcond2 : (decide (c.k = 2) || decide (c.k = 11)) = false := by
                      rw [decide_eq_true hi1, Bool.true_and] at hcond
                      exact hcond
                    simp +contextual only [r1, r2, r3, r4, r7, r50, r51, r52, g0, ia, ld, o1, o2, o3, nebx, nebx', nepb, nepg, ei, hcond2, F.s.hpb, F.s.hpg, F.b, ↓wA, wC, Ex.ends, evR, oneOf, top, ↓reduceIte, Nat.reduceEqDiff, Nat.reduceLeDiff, Nat.reduceAdd, Nat.reduceSub, Nat.reduceMul, reduceCtorEq, Int.reduceEq, Int.reduceLT, Int.reduceLE, Int.reduceNeg]
                    refine callK_intro (kid _ _ li (b ++ own) F1 (fun n => ?_) hz2) ?_
                    · have := hfb n
                      have := hcn n
                      omega
                    rintro y g3 ⟨l', F3, s2, s3⟩
                    simp +contextual only [r1, r2, r3, r4, r7, r50, r51, r52, wi, ↓wA, wC, Ex.ends, evR, oneOf, top, ↓reduceIte, Nat.reduceEqDiff, Nat.reduceLeDiff, Nat.reduceAdd, Nat.reduceSub, Nat.reduceMul, reduceCtorEq, Int.reduceEq, Int.reduceLT, Int.reduceLE, Int.reduceNeg]
                    exact ⟨⟨hx1.mod s3 hxo, i + 1, l', rfl, hlt, F3, fun z => by rw [← hz z, s2 z, List.mem_append]; grind⟩, by omega⟩
                  · have ei := eq_false hi1
                    simp +contextual only [r1, r2, r3, r4, r7, r50, r51, r52, g0, ia, ld, o1, o2, o3, nebx, nebx', nepb, nepg, ei, F.s.hpb, F.s.hpg, F.b, ↓wA, wC, Ex.ends, evR, oneOf, top, ↓reduceIte, Nat.reduceEqDiff, Nat.reduceLeDiff, Nat.reduceAdd, Nat.reduceSub, Nat.reduceMul, reduceCtorEq, Int.reduceEq, Int.reduceLT, Int.reduceLE, Int.reduceNeg]
                    refine callK_intro (kid _ _ li (b ++ own) F1 (fun n => ?_) hz2) ?_
                    · have := hfb n
                      have := hcn n
                      omega
                    rintro y g3 ⟨l', F3, s2, s3⟩
                    simp +contextual only [r1, r2, r3, r4, r7, r50, r51, r52, wi, ↓wA, wC, Ex.ends, evR, oneOf, top, ↓reduceIte, Nat.reduceEqDiff, Nat.reduceLeDiff, Nat.reduceAdd, Nat.reduceSub, Nat.reduceMul, reduceCtorEq, Int.reduceEq, Int.reduceLT, Int.reduceLE, Int.reduceNeg]
                    exact ⟨⟨hx1.mod s3 hxo, i + 1, l', rfl, hlt, F3, fun z => by rw [← hz z, s2 z, List.mem_append]; grind⟩, by omega⟩
              · have g0 : ((i : Int) < (c.l.length : Int)) = False := eq_false (by omega)
                rw [List.drop_eq_nil_of_le (by omega), frees] at hz
                have hz1 : ∀ z, z ∈ li ↔ z ∈ l ∨ z ∈ free c b := fun z => by rw [← hz z]; simp
                have hLo := hx.len
                simp +contextual only [r1, r2, r3, r4, r7, r50, r51, r52, g0, hLo, ↓wA, wC, Ex.ends, evR, oneOf, top, ↓reduceIte, Nat.reduceEqDiff, Nat.reduceLeDiff, Nat.reduceAdd, Nat.reduceSub, Nat.reduceMul, reduceCtorEq, Int.reduceEq, Int.reduceLT, Int.reduceLE, Int.reduceNeg]
                refine loopK_intro (fun r h' => r 1 = .ptr pb 0 ∧ r 85 = x ∧ r 86 = .int .i64 own.length ∧ SlV h' 1 x own.length (intsV own) ∧ ∃ (i : Nat), r 87 = .int .i64 i ∧ i ≤ own.length ∧ UbF hb h pb po pg mb mo [.int .i64 c.k, .int .i64 c.x, .int .i64 c.n, .str c.s, va, vt, vl] h' (fun n => f n + ((own.drop i).count n : Int)) li) (fun r h' => own.length - (r 87).toN) ?_ ?_
                · exact ⟨by simp only [r1, ↓wA, wC, ↓reduceIte, Nat.reduceEqDiff, reduceCtorEq], by simp only [↓wA, wC, ↓reduceIte, Nat.reduceEqDiff, reduceCtorEq], by simp only [↓wA, wC, ↓reduceIte, Nat.reduceEqDiff, reduceCtorEq], hx, 0, by simp only [↓wA, wC, ↓reduceIte, Nat.reduceEqDiff, reduceCtorEq] <;> rfl, by omega, by simpa using F⟩
                · clear r1 r2 r3 r4 r7 r50 r51 r52 hx F hi hlt g0
                  rintro r g ⟨r1, r85, r86, hx, i, r87, hi, F⟩
                  unfold c66l4
                  by_cases hlt : i < own.length
                  · have g0 : ((i : Int) < (own.length : Int)) = True := eq_true (by omega)
                    obtain ⟨bb, o, ia, ld⟩ := ints_at hx (k := .i64) hlt
                    have wi := w_inc hlt (by omega)
                    have htk := List.drop_eq_getElem_cons hlt
                    generalize own[i] = k at *
                    have lk := F.s.cnt.look k
                    have hcl : (own.drop i).count k ≤ own.length := Nat.le_trans List.count_le_length (by rw [List.length_drop]; omega)
                    have hck : 1 ≤ (own.drop i).count k := by rw [htk, List.count_cons_self]; omega
                    have hfk := hfb k
                    have w1 : IntKind.i64.wrap (f k + ((own.drop i).count k : Int) - 1) = f k + ((own.drop i).count k : Int) - 1 := wrap_i64 (by omega) (by omega)
                    obtain ⟨g2, u1, F2, u3, u4, u5⟩ := F.inc k (f k + ((own.drop i).count k : Int) - 1)
                    rw [drops htk] at F2
                    simp +contextual only [r1, r85, r86, r87, g0, ia, ld, F.s.hpb, lk, w1, u1, wi, ↓wA, wC, Ex.ends, evR, oneOf, top, ↓reduceIte, Nat.reduceEqDiff, Nat.reduceLeDiff, Nat.reduceAdd, Nat.reduceSub, Nat.reduceMul, reduceCtorEq, Int.reduceEq, Int.reduceLT, Int.reduceLE, Int.reduceNeg]
                    exact ⟨⟨hx.mod u3 hxo, i + 1, rfl, hlt, F2⟩, by omega⟩
                  · have g0 : ((i : Int) < (own.length : Int)) = False := eq_false (by omega)
                    rw [List.drop_eq_nil_of_le (by omega)] at F
                    have hff : (fun n => f n + (([] : List Int).count n : Int)) = f := by funext n; simp
                    rw [hff] at F
                    simp +contextual only [r1, r85, r86, r87, g0, ↓wA, wC, Ex.ends, evR, oneOf, top, ↓reduceIte, Nat.reduceEqDiff, Nat.reduceLeDiff, Nat.reduceAdd, Nat.reduceSub, Nat.reduceMul, reduceCtorEq, Int.reduceEq, Int.reduceLT, Int.reduceLE, Int.reduceNeg]
                    exact ⟨li, F.s, hz1, F.m⟩
end Go.Proofs.YtjbiefneffiogaaGreat

namespace Go.Proofs.YtjbiefneffiogaaGreat
open Go Am
mutual
def vars : Co → Prop
  | .mk k x n s a t l => (∀ q ∈ a, q.k = 1 → varB q.n = true) ∧ varss l
def varss : List Co → Prop
  | [] => True
  | c :: cs => vars c ∧ varss cs
end
theorem vars_of_all {a : List At} (h : a.all atB = true) : ∀ q ∈ a, q.k = 1 → varB q.n = true := by
  intro q hq hk
  have := List.all_eq_true.1 h q hq
  rw [atB, if_pos hk, Bool.and_eq_true] at this
  exact this.1
theorem ownP_atoms {b : Bool} {c : Co} (h : ownP b c = true) : c.a.all atB = true := by
  unfold ownP at h
  split at h
  · cases h
  · simp only [Bool.and_eq_true] at h
    exact h.2
theorem ownP_one {b : Bool} {c : Co} (h7 : c.k = 7) (h : ownP b c = true) : c.l.length = 1 := by
  unfold ownP at h
  have : rulesM c.k = some ⟨true, false, false, false, 0, 0, 1, 1⟩ := by rw [h7]; rfl
  rw [this] at h
  simp only [Bool.and_eq_true, withinI, decide_eq_true_eq] at h
  have := h.1.1.2.1.2
  omega
mutual
theorem vars_of_may : ∀ (c : Co), may ownP c = true → vars c
  | .mk k x n s a t l, h => by
    simp only [may] at h
    by_cases hk : k = 8
    · rw [if_pos hk] at h
      simp only [Bool.and_eq_true, decide_eq_true_eq, bareB] at h
      refine ⟨fun q hq => ?_, varss_of_rec l h.2⟩
      have : a = [] := h.1.1.2
      rw [this] at hq; cases hq
    · rw [if_neg hk] at h
      simp only [Bool.and_eq_true] at h
      exact ⟨vars_of_all (ownP_atoms h.1), varss_of_mays l h.2⟩
theorem varss_of_mays : ∀ (l : List Co), mays ownP l = true → varss l
  | [], _ => trivial
  | c :: cs, h => by
    simp only [mays, Bool.and_eq_true] at h
    exact ⟨vars_of_may c h.1, varss_of_mays cs h.2⟩
theorem varss_of_rec : ∀ (l : List Co), mayRec ownP l = true → varss l
  | [], _ => trivial
  | [c], h => by
    simp only [mayRec] at h
    exact ⟨vars_of_may c h, trivial⟩
  | c :: d :: cs, h => by
    have h' : ((decide (c.k = 7) && ownP true c) && mayKid ownP c && mayRec ownP (d :: cs)) = true := by simpa only [mayRec] using h
    simp only [Bool.and_eq_true, decide_eq_true_eq] at h'
    exact ⟨vars_of_kid c h'.1.1.1 h'.1.1.2 h'.1.2, varss_of_rec (d :: cs) h'.2⟩
theorem vars_of_kid : ∀ (c : Co), c.k = 7 → ownP true c = true → mayKid ownP c = true → vars c
  | .mk k x n s a t l, h7, ho, h => by
    exact ⟨vars_of_all (ownP_atoms ho), varss_of_head l (ownP_one h7 ho) (by simpa only [mayKid] using h)⟩
theorem varss_of_head : ∀ (l : List Co), l.length = 1 → mayHead ownP l = true → varss l
  | [c], _, h => ⟨vars_of_may c (by simpa only [mayHead] using h), trivial⟩
  | [], hl, _ => by simp at hl
  | _ :: _ :: _, hl, _ => by simp at hl
end
theorem mem_usedA {b : List Int} {a : List At} {z : Int} (h : z ∈ usedA b a) : ∃ q ∈ a, q.k = 1 ∧ q.n = z := by
  unfold usedA at h
  obtain ⟨q, h1, h2⟩ := List.mem_map.1 h
  obtain ⟨h3, h4⟩ := List.mem_filter.1 h1
  simp only [Bool.and_eq_true, decide_eq_true_eq] at h4
  exact ⟨q, h3, h4.1, h2⟩
mutual
theorem mem_free : ∀ (c : Co) (b : List Int) (z : Int), vars c → z ∈ free c b → varB z = true
  | .mk k x n s a t l, b, z, hv, h => by
    simp only [free, List.mem_append] at h
    rcases h with h | h
    · obtain ⟨q, q1, q2, rfl⟩ := mem_usedA h
      exact hv.1 q q1 q2
    · exact mem_frees l _ _ _ _ z hv.2 h
theorem mem_frees : ∀ (l : List Co) (late : Bool) (x : Int) (b : List Int) (i : Nat) (z : Int), varss l → z ∈ frees late x l b i → varB z = true
  | [], _, _, _, _, _, _, h => by simp [frees] at h
  | c :: cs, late, x, b, i, z, hv, h => by
    simp only [frees, List.mem_append] at h
    rcases h with h | h
    · exact mem_free c _ z hv.1 h
    · exact mem_frees cs late x b (i + 1) z hv.2 h
end
def atW : List At → Nat
  | [] => 0
  | q :: a => q.s.length / 100 + atW a
mutual
def wt : Co → Nat
  | .mk k x n s a t l => 1 + a.length + t.length + s.length / 100 + atW a + wts l
def wts : List Co → Nat
  | [] => 0
  | c :: cs => wt c + wts cs
end
mutual
theorem size_wt : ∀ c : Co, size c ≤ wt c
  | .mk k x n s a t l => by
    have := sizes_wts l
    simp only [size, wt]
    omega
theorem sizes_wts : ∀ l : List Co, sizes l ≤ wts l
  | [] => Nat.le_refl _
  | c :: cs => by
    have := size_wt c
    have := sizes_wts cs
    simp only [sizes, wts]
    omega
end
theorem usedA_len (b : List Int) (a : List At) : (usedA b a).length ≤ a.length := by
  unfold usedA
  rw [List.length_map]
  exact List.length_filter_le _ _
mutual
theorem free_len : ∀ (c : Co) (b : List Int), (free c b).length ≤ wt c
  | .mk k x n s a t l, b => by
    have h1 := usedA_len b a
    have h2 := frees_len l (lateB k) x (b ++ ownNames k x l) 0
    simp only [free, wt, List.length_append]
    omega
theorem frees_len : ∀ (l : List Co) (late : Bool) (x : Int) (b : List Int) (i : Nat), (frees late x l b i).length ≤ wts l
  | [], _, _, _, _ => by simp [frees, wts]
  | c :: cs, late, x, b, i => by
    have h1 := free_len c (if late && i == 1 then b ++ [x] else b)
    have h2 := frees_len cs late x b (i + 1)
    simp only [frees, wts, List.length_append]
    omega
end
theorem wts_len : ∀ l : List Co, l.length ≤ wts l := fun l => by have := sizes_len l; have := sizes_wts l; omega
theorem atW_mem : ∀ {a : List At} {q : At}, q ∈ a → q.s.length / 100 ≤ atW a
  | [], _, h => by cases h
  | p :: a, q, h => by
    simp only [atW]
    rcases List.mem_cons.1 h with rfl | h
    · omega
    · have := atW_mem h; omega
mutual
theorem fit_of_wt : ∀ (c : Co), wt c ≤ 400 → fit 1048576 c
  | .mk k x n s a t l, h => by
    simp only [wt] at h
    have := wts_len l
    refine ⟨by omega, by omega, by omega, by omega, fun q hq => ?_, fits_of_wts l (by omega)⟩
    have := atW_mem hq
    omega
theorem fits_of_wts : ∀ (l : List Co), wts l ≤ 400 → fits 1048576 l
  | [], _ => trivial
  | c :: cs, h => by
    simp only [wts] at h
    exact ⟨fit_of_wt c (by omega), fits_of_wts cs (by omega)⟩
end
end Go.Proofs.YtjbiefneffiogaaGreat

namespace Go.Proofs.YtjbiefneffiogaaGreat
open Go Am
def c68 : RC :=
 .seq (.reg [⟨some 1, .box (.t 0), none, [0]⟩,
 ⟨some 2, .mv (.c .nilfunc), none, []⟩])
 (.seq (.reg [⟨some 3, .fn 129 [(.t 1)], none, [1]⟩,
 ⟨some 2, .mv (.t 3), none, [3]⟩])
 (.ret))
theorem c68_ctr : CtrOf 68 4 [.t 2] c68 := ctrOf Tryz.func68 (by kernel_rfl) (by kernel_rfl) rfl (by kernel_rfl) (by kernel_rfl)
end Go.Proofs.YtjbiefneffiogaaGreat

namespace Go.Proofs.YtjbiefneffiogaaGreat
open Go Am
theorem keysZ_esT : ∀ (l : List Int) (n : Nat), keysZ (esT l n) = some l
  | [], _ => rfl
  | x :: l, n => by simp only [esT, keysZ, keysZ_esT l (n + 1)]
theorem memZ_iff {x : Int} : ∀ l : List Int, memZ x l = l.contains x
  | [] => rfl
  | y :: l => by
    rw [memZ, memZ_iff l, List.contains_cons, eqB_dec]
    congr 1
theorem nodupZ_of {l : List Int} (h : l.Nodup) : nodupZ l = true := by
  induction l with
  | nil => rfl
  | cons x l ih =>
    obtain ⟨h1, h2⟩ := List.nodup_cons.1 h
    rw [nodupZ, ih h2, memZ_iff]
    simp [h1]
theorem bornsB_esT : ∀ (l : List Int) (n lo c : Nat), lo ≤ n → n + l.length ≤ c → bornsB c lo (esT l n) = true
  | [], _, _, _, _, _ => rfl
  | x :: l, n, lo, c, h1, h2 => by
    simp only [List.length_cons] at h2
    rw [esT, bornsB, bornsB_esT l (n + 1) (n + 1) c (Nat.le_refl _) (by omega)]
    have a1 : Nat.ble lo n = true := by rw [Nat.ble_eq]; exact h1
    have a2 : Nat.blt n c = true := by rw [Nat.blt_eq]; omega
    simp only [a1, a2]; rfl
theorem wf_var {z : Int} (h : varB z = true) : (Lit.int .i64 z).wf = true := by
  simp only [varB, Bool.and_eq_true, decide_eq_true_eq] at h
  simp only [Lit.wf, Bool.and_eq_true, decide_eq_true_eq]
  have a1 : IntKind.i64.min = -9223372036854775808 := by decide
  have a2 : IntKind.i64.max = 9223372036854775807 := by decide
  rw [a1, a2]
  omega
theorem wfZ_of {l : List Int} (h : ∀ z ∈ l, varB z = true) : wfZ l = true := by
  induction l with
  | nil => rfl
  | cons x l ih =>
    rw [wfZ, wf_var (h x (by simp)), ih fun z hz => h z (by simp [hz])]
    rfl
theorem esT_len : ∀ (l : List Int) (n : Nat), (esT l n).length = l.length
  | [], _ => rfl
  | x :: l, n => by simp only [esT, List.length_cons, esT_len l (n + 1)]
theorem sorted_ctr {h : Heap} {bb b : Pa} {l : List Int} (h1 : h.get bb = .ofL [.map b] 0 false) (h2 : h.get b = .mp (esT l 0) l.length) (hn : l.Nodup) (hv : ∀ z ∈ l, varB z = true) (hl : l.length ≤ 1000000) :
    Ctr Tryz.prog 67 [.func 129 [.ptr bb 0]] h fun x h' => SlO h.next h' 1 x l.length (intsV (sortZ l)) ∧ Ext h h' := by
  have hp : (sortZ l).length = l.length := (sortZ_perm l).length_eq
  have key : ∃ v h', (sortedKeysC 129).run [.func 129 [.ptr bb 0]] h = .val v h' ∧ SlO h.next h' 1 v l.length (intsV (sortZ l)) ∧ Ext h h' := by
    have e : (sortedKeysC 129).run [.func 129 [.ptr bb 0]] h = sortedOf 129 bb h := rfl
    rw [e]
    unfold sortedOf
    rw [h1]
    change ∃ v h', (match h.get b with
      | .mp es clock => (match keysZ es with
        | some ks => bif nodupZ ks && bornsB clock 0 es && wfZ ks && Nat.ble es.length 1000000 then (match sortZ ks with
            | [] => OR.val .nilslice h
            | x :: l => (match newGrow h (intsV (x :: l)) 1 false with
              | some h' => OR.val (.gslice (pa h.next) 0 (x :: l).length 0) h'
              | none => OR.fail)) else OR.fail
        | none => OR.fail)
      | _ => OR.fail) = OR.val v h' ∧ _
    rw [h2]
    simp only [keysZ_esT, nodupZ_of hn, bornsB_esT l 0 0 l.length (Nat.le_refl _) (by omega), wfZ_of hv, esT_len, show Nat.ble l.length 1000000 = true from by rw [Nat.ble_eq]; exact hl, Bool.and_self, cond_true]
    cases hs : sortZ l with
    | nil =>
      rw [hs] at hp
      exact ⟨_, _, rfl, ⟨by simp [intsV, ← hp], hp.symm⟩, Ext.refl _⟩
    | cons x m =>
      rw [hs] at hp
      have hlen : (intsV (x :: m)).length = l.length := by rw [intsV_len, hp]
      have e2 : newGrow h (intsV (x :: m)) 1 false = some (h.new (.ofL (intsV (x :: m)) 1 false)) := by
        unfold newGrow
        rw [show (Nat.ble (intsV (x :: m)).length top && Nat.ble 1 1) = true from by rw [Bool.and_eq_true, Nat.ble_eq, Nat.ble_eq, hlen]; unfold top; omega]
        rfl
      simp only [e2, hp]
      refine ⟨_, _, rfl, ?_, (Ext.refl h).new _⟩
      exact SlO.grown (by rw [hlen]; omega) (Nat.le_refl _)
  obtain ⟨v, h', he, q1, q2⟩ := key
  exact ⟨v, h', .inl ⟨⟨_, Tryz.func67, by kernel_rfl⟩, fun w0 E w xs hx s => sortedKeys_ok Tryz.underlying3 sortedKeys he w0 E w xs hx s⟩, q1, q2⟩
theorem keys_ctr (b : Pa) (h : Heap) : Ctr Tryz.prog 68 [.map b] h fun x h' => x = .func 129 [.ptr (pa h.next) 0] ∧ h'.get (pa h.next) = .ofL [.map b] 0 false ∧ Ext h h' := by
  refine c68_ctr rfl (wpK_of ?_)
  unfold c68
  simp +contextual only [↓wA, wC, Ex.ends, evR, oneOf, top, ↓reduceIte, Nat.reduceEqDiff, Nat.reduceLeDiff, Nat.reduceAdd, Nat.reduceSub, Nat.reduceMul, reduceCtorEq, Int.reduceEq, Int.reduceLT, Int.reduceLE, Int.reduceNeg]
  exact (Ext.refl h).new _
theorem nodup_len : ∀ {l m : List Int}, l.Nodup → (∀ z ∈ l, z ∈ m) → l.length ≤ m.length
  | [], _, _, _ => by simp
  | x :: l, m, hn, h => by
    obtain ⟨h1, h2⟩ := List.nodup_cons.1 hn
    have hx := h x (by simp)
    have := nodup_len (l := l) (m := m.erase x) h2 fun z hz => (List.mem_erase_of_ne (show z ≠ x from fun e => h1 (by rw [← e]; exact hz))).2 (h z (by simp [hz]))
    rw [List.length_erase_of_mem hx] at this
    have := List.length_pos_of_mem hx
    simp only [List.length_cons]
    omega
theorem Unbound_ctr (c : Co) (vs : List V) (h : Heap) (H : CoIn h c vs) (hw : wt c ≤ 400) (hm : may ownP c = true) (hok : okC c) :
    Ctr Tryz.prog 46 [.agg vs] h fun x h' => SlO h.next h' 1 x (rising (free c [])).length (intsV (rising (free c []))) ∧ Ext h h' := by
  obtain ⟨va, vt, vl, rfl, Ha, Ht, Hl⟩ := H.open
  have hf := fit_of_wt c hw
  refine c46_ctr rfl (wpK_of ?_)
  unfold c46
  simp +contextual only [show ∀ g : Heap, makeMapV none g = .val (.map (pa g.next)) (g.new (.mp [] 0)) from fun g => rfl, ↓wA, wC, Ex.ends, evR, oneOf, top, ↓reduceIte, Nat.reduceEqDiff, Nat.reduceLeDiff, Nat.reduceAdd, Nat.reduceSub, Nat.reduceMul, reduceCtorEq, Int.reduceEq, Int.reduceLT, Int.reduceLE, Int.reduceNeg]
  refine callK_intro (ub_ctr (size c) c (Nat.le_refl _) hf hok _ h H _ _ _ _ (pa (h.next + 1 + 2)) (pa (h.next + 1)) (fun _ => 0) [] [] ?S ?B ?Z) ?K
  case S =>
    have nx1 : ∀ n : Nat, (n + 1 = n) = False := fun n => eq_false (by omega)
    have nx2 : ∀ n : Nat, (n + 1 + 1 = n) = False := fun n => eq_false (by omega)
    have nx3 : ∀ n : Nat, (n + 1 + 1 + 1 = n) = False := fun n => eq_false (by omega)
    have nx4 : ∀ n : Nat, (n + 1 + 1 + 1 + 1 = n) = False := fun n => eq_false (by omega)
    refine ⟨?_, ?_, ?_, ?_, ?_, ?_, ?_, ⟨[], 0, ?_, fun _ => rfl⟩, ?_, List.nodup_nil⟩
    · exact ((((((((((Ext.refl h).new _).new _).new _).set (by omega) _).new _).new _).set (by omega) _).new _).set (by omega) _)
    · simp [get_set, get_new, next_new, next_set, pa_eq, nx1, nx2, nx3, nx4]
    · simp [get_set, get_new, next_new, next_set, pa_eq, nx1, nx2, nx3, nx4]
    · simp [get_set, get_new, next_new, next_set, pa_eq, nx1, nx2, nx3, nx4]
    · rintro b (rfl | rfl | rfl | rfl | rfl) <;> exact ⟨by unfold Old; simp only [unPa_pa, next_set, next_new]; omega, by rw [unPa_pa]; omega⟩
    · rintro b (rfl | rfl | rfl) <;> simp only [ne_eq, pa_eq] <;> omega
    · simp only [ne_eq, pa_eq]; omega
    · simp [get_set, get_new, next_new, next_set, pa_eq, esC, nx1, nx2, nx3, nx4]
    · simp [get_set, get_new, next_new, next_set, pa_eq, esT, nx1, nx2, nx3, nx4]
  case B =>
    intro n
    have := order_len c
    have := size_wt c
    omega
  case Z => intro n; simp
  case K =>
    rintro x h' ⟨l', S, hz, hm'⟩
    simp +contextual only [S.hpo, ↓wA, wC, Ex.ends, evR, oneOf, top, ↓reduceIte, Nat.reduceEqDiff, Nat.reduceLeDiff, Nat.reduceAdd, Nat.reduceSub, Nat.reduceMul, reduceCtorEq, Int.reduceEq, Int.reduceLT, Int.reduceLE, Int.reduceNeg]
    refine callK_intro (keys_ctr _ h') ?_
    rintro y h2 ⟨rfl, g1, e2⟩
    have S2 := S.keep e2
    have hz' : ∀ z, z ∈ l' ↔ z ∈ free c [] := fun z => by rw [hz z]; simp
    have hlen : l'.length ≤ (free c []).length := nodup_len S.nd (fun z q => (hz' z).1 q)
    have hfl := free_len c []
    simp +contextual only [↓wA, wC, Ex.ends, evR, oneOf, top, ↓reduceIte, Nat.reduceEqDiff, Nat.reduceLeDiff, Nat.reduceAdd, Nat.reduceSub, Nat.reduceMul, reduceCtorEq, Int.reduceEq, Int.reduceLT, Int.reduceLE, Int.reduceNeg]
    refine callK_intro (sorted_ctr g1 S2.out S.nd (fun z q => mem_free c [] z (vars_of_may c hm) ((hz' z).1 q)) (by omega)) ?_
    rintro y h3 ⟨O, e3⟩
    have hr : sortZ l' = rising (free c []) := sorted_rising (sortZ_sorted l') (sortZ_perm l') S.nd hz'
    have hll : l'.length = (rising (free c [])).length := by rw [← hr, (sortZ_perm l').length_eq]
    rw [hr, hll] at O
    simp +contextual only [↓wA, wC, Ex.ends, evR, oneOf, top, ↓reduceIte, Nat.reduceEqDiff, Nat.reduceLeDiff, Nat.reduceAdd, Nat.reduceSub, Nat.reduceMul, reduceCtorEq, Int.reduceEq, Int.reduceLT, Int.reduceLE, Int.reduceNeg]
    exact ⟨O.mono (S2.ext.next), S2.ext.trans e3⟩
end Go.Proofs.YtjbiefneffiogaaGreat

namespace Go.Proofs.YtjbiefneffiogaaGreat
open Go Am Go.Sort
theorem putCells_layC {l : List Int} {c : Array Value} {o : Nat} (h : o + l.length ≤ c.size) : Go.Sort.putCells (Value.int .i64) o l.toArray c = layC c o (l.map (Value.int .i64)) := by
  apply Array.ext_getElem?
  intro j
  rw [layC_get _ _ _ _ (by rw [List.length_map]; exact h), List.length_map]
  unfold Go.Sort.putCells
  rw [Array.getElem?_mapIdx]
  by_cases hj : o ≤ j ∧ j < o + l.length
  · rw [if_pos hj, List.getElem?_map]
    have hjc : j < c.size := by omega
    have hjl : j - o < l.length := by omega
    simp only [Array.getElem?_eq_getElem hjc, Option.map_some, List.size_toArray, if_pos hj, List.getElem?_eq_getElem hjl, Option.some.injEq, Value.int.injEq, true_and]
    simp [hjl]
  · rw [if_neg hj]
    cases hc : c[j]? with
    | none => rfl
    | some y => simp only [Option.map_some, List.size_toArray, if_neg hj]
theorem sort_callsV {h h' : Heap} {b : Pa} {off : Nat} {l : List Int} {vs : List V} {esz : Nat} {st : Bool} (hg : h.get b = .ofL vs esz st) (hcs : (vs.drop off).take l.length = intsV l) (hl : off + l.length ≤ vs.length) (hl2 : l.length < 4611686018427387904)
    (he : Am.lay h b off (intsV (sortZ l)) = some h') {v : V} (hv : (∃ cap, v = .slice b off l.length cap) ∨ ∃ idx, v = .gslice b off l.length idx) : CallsV Tryz.prog 51 [v] h (.tuple []) h' := by
  refine .inl ⟨⟨_, Tryz.func51, by kernel_rfl⟩, fun w0 E w xs hx s => ?_⟩
  simp only [RelL] at hx
  obtain ⟨X, _, rfl, hX, rfl⟩ := hx
  have hX' : ∃ p cap, E b = some p ∧ X = .slice (some ⟨p.blk, p.base + off, none⟩) l.length cap := by
    rcases hv with ⟨cap, rfl⟩ | ⟨idx, rfl⟩
    · simp only [Rel] at hX
      obtain ⟨p, h1, _, h2⟩ := hX
      exact ⟨p, _, h1, h2⟩
    · simp only [Rel] at hX
      obtain ⟨p, h1, _, h2⟩ := hX
      exact ⟨p, _, h1, h2⟩
  obtain ⟨p, cap, hp, rfl⟩ := hX'
  have hb := s.at hp
  rw [hg] at hb
  obtain ⟨hn, q, c, el, fz, h1, h2, h3, h4, h5, h6, h7⟩ := hb
  rw [hp] at h1; cases h1
  have hlt := (Array.getElem?_eq_some_iff.1 h3).1
  have hcz : p.base + vs.length ≤ c.size := h7.1
  have hH : Go.Sort.Holds (Value.int .i64) w p.blk (p.base + off) l.toArray := by
    intro j hj
    have hj' : j < l.length := by simpa using hj
    have hjc : p.base + (off + j) < c.size := by omega
    have hrel := h7.2 (off + j) c[p.base + (off + j)] (by omega) (Array.getElem?_eq_getElem hjc)
    have hcell : vs[off + j]? = some (.int .i64 l[j]) := by
      have e : ((vs.drop off).take l.length)[j]? = (intsV l)[j]? := by rw [hcs]
      rw [List.getElem?_take_of_lt hj', List.getElem?_drop] at e
      rw [e]
      simp [intsV, hj']
    have hget : T.get .bad (pa (off + j)) (puts .e 0 vs) = .int .i64 l[j] := by
      have := get_puts vs 0 (off + j) .e
      rw [Nat.zero_add] at this
      rw [this, if_pos (by omega), hcell]; rfl
    rw [hget] at hrel
    simp only [Rel] at hrel
    constructor
    · simp only [World.cell?, h3]
      rw [show p.base + off + j = p.base + (off + j) from by omega, Array.getElem?_eq_getElem hjc, hrel]
      simp [hj']
    · simp only [World.frozen?, h3]
      rw [Bool.and_eq_false_iff]
      simp only [decide_eq_false_iff_not]
      omega
  refine (AnyM.slices_Sort_int Tryz.sortA p.blk (p.base + off) cap l w hH hlt hl2).mono fun e w' q => ?_
  obtain ⟨rfl, n, os, rfl⟩ := q
  rw [sortZ_eq (List.Perm.refl l)]
  have hsl : (sortZ l).length = l.length := (sortZ_perm l).length_eq
  obtain ⟨w1, r1, s1⟩ := lay_sound (P := Tryz.prog) s (intsV_rel E (sortZ l)) he hp
  have r2 := run_storeCells (P := Tryz.prog) hlt el fz (p.base + off) ((sortZ l).map encZ) c 0 (fun v hv => by
    obtain ⟨z, _, rfl⟩ := List.mem_map.1 hv
    rfl) (by rw [List.length_map]; omega) h4
  rw [withC_same h3, Nat.add_zero] at r2
  rw [r2] at r1
  have hw1 : w1 = withC w p.blk (layC c (p.base + off) ((sortZ l).map encZ)) el fz := by injection r1 with _ e; exact e.symm
  subst hw1
  refine ⟨E, _, rfl, fun _ _ q => q, by simp only [Rel]; exact ⟨_, rfl, rfl⟩, s1.below ⟨rfl, rfl, rfl, ?_, fun k hk => ?_⟩⟩
  · simp only [size_grow, withC_size, putRow, mapBlock, Sort.ahead, Array.size_modify]; omega
  · rw [withC_size] at hk
    have e1 : (grow (putRow (Value.int .i64) (Sort.ahead w n) p.blk (p.base + off) (sortZ l).toArray) os).heap[k]? = (putRow (Value.int .i64) (Sort.ahead w n) p.blk (p.base + off) (sortZ l).toArray).heap[k]? := by
      simp only [grow]
      rw [Array.getElem?_append_left]
      simp only [putRow, mapBlock, Sort.ahead, Array.size_modify]
      exact hk
    rw [e1]
    simp only [putRow, mapBlock, Sort.ahead, Array.getElem?_modify]
    by_cases hkb : p.blk = k
    · subst hkb
      rw [if_pos rfl, h3, withC_heap hlt]
      simp only [Option.map_some, onCells]
      rw [putCells_layC (by omega)]
    · rw [if_neg hkb, withC_other _ _ _ (fun e => hkb e.symm)]
theorem splice_all {A B : List V} (h : B.length = A.length) : splice A 0 B = B := by
  unfold splice
  rw [List.take_zero, List.nil_append, Nat.zero_add, List.drop_eq_nil_of_le (by omega), List.append_nil]
theorem sort_ctr {B : Nat} {h : Heap} {v : V} {l : List Int} (O : SlO B h 1 v l.length (intsV l)) (hl : l.length ≤ 8000000) :
    Ctr Tryz.prog 51 [v] h fun x h' => x = .tuple [] ∧ SlO B h' 1 v l.length (intsV (sortZ l)) ∧ Mod v.blk h h' := by
  have hs : (sortZ l).length = l.length := (sortZ_perm l).length_eq
  have hil : (intsV (sortZ l)).length = l.length := by rw [intsV_len, hs]
  obtain ⟨q1, q2⟩ := O
  cases v <;> simp only at q2 <;> try (exact q2.elim)
  case nilslice =>
    have : l = [] := List.eq_nil_of_length_eq_zero q2
    subst this
    refine ⟨_, h, .inl ⟨⟨_, Tryz.func51, by kernel_rfl⟩, fun w0 E w xs hx s => ?_⟩, rfl, ⟨rfl, rfl⟩, Mod.refl _ _⟩
    simp only [RelL, Rel] at hx
    obtain ⟨X, _, rfl, rfl, rfl⟩ := hx
    refine (AnyM.slices_Sort_int_none Tryz.sortA none 0 w).mono fun e w' q => ?_
    obtain ⟨rfl, rfl⟩ := q
    exact ⟨E, _, rfl, fun _ _ q => q, by simp only [Rel]; exact ⟨_, rfl, rfl⟩, s⟩
  case slice b off len cap =>
    obtain ⟨rfl, q3, q4, q5, q6, us, esz, st, q7, q8, q9⟩ := q2
    rw [intsV_len] at q9
    have hw : Own h b us esz st := q7
    have e := hw.lay (off := off) (ws := intsV (sortZ l)) (by rw [hil]; omega) (intsV_ones _)
    refine ⟨_, _, sort_callsV q7 q9 (by omega) (by omega) e (.inl ⟨cap, rfl⟩), rfl, ⟨by rw [hil]; omega, rfl, q3, ?_, q5, q6, ?_⟩, ?_⟩
    · unfold Old; rw [next_set]; exact q4
    · refine ⟨_, esz, st, by rw [get_set, if_pos rfl], by rw [splice_length _ _ _ (by rw [hil]; omega)]; exact q8, ?_⟩
      have := splice_inner us off 0 (intsV l) (intsV (sortZ l)) (by rw [intsV_len]; omega) (by rw [intsV_len]; exact q9) (by rw [hil, intsV_len]; omega)
      rw [hil]
      rw [intsV_len, Nat.add_zero] at this
      rw [this, splice_all (by rw [hil, intsV_len])]
    · exact (Mod.refl (fun q => q = b) h).set (fun _ => rfl) _
  case gslice b off len idx =>
    obtain ⟨rfl, q3, q4, rfl, rfl, us, st, q7, q8, q9⟩ := q2
    rw [intsV_len] at q9 q8
    have hw : Own h b us 1 st := q7
    have e := hw.lay (off := 0) (ws := intsV (sortZ l)) (by rw [hil]; omega) (intsV_ones _)
    refine ⟨_, _, sort_callsV q7 (by rw [List.drop_zero]; exact q9) (by omega) (by omega) e (.inr ⟨0, rfl⟩), rfl, ⟨by rw [hil]; omega, rfl, q3, ?_, rfl, rfl, ?_⟩, ?_⟩
    · unfold Old; rw [next_set]; exact q4
    · refine ⟨_, st, by rw [get_set, if_pos rfl], by rw [splice_length _ _ _ (by rw [hil]; omega), hil]; exact q8, ?_⟩
      have := splice_inner us 0 0 (intsV l) (intsV (sortZ l)) (by rw [intsV_len]; omega) (by rw [intsV_len, List.drop_zero]; exact q9) (by rw [hil, intsV_len]; omega)
      rw [hil]
      rw [intsV_len, Nat.add_zero, List.drop_zero] at this
      rw [this, splice_all (by rw [hil, intsV_len])]
    · exact (Mod.refl (fun q => q = b) h).set (fun _ => rfl) _
end Go.Proofs.YtjbiefneffiogaaGreat

namespace Go.Proofs.YtjbiefneffiogaaGreat
open Go Am
theorem SlO.tail {B : Nat} {h : Heap} {v : V} {n : Nat} {vs : List V} (H : SlO B h 1 v n vs) {m : Nat} (hm : m < n) :
    ∃ v', sliceV 1 v (some (.int .i64 m)) none none = some v' ∧ lenSl v' = some (.int .i64 ((n - m : Nat) : Int)) ∧ ∀ j : Nat, m + j < n → iaV 1 v' (.int .i64 j) = iaV 1 v (.int .i64 ((m + j : Nat) : Int)) := by
  obtain ⟨q1, q2⟩ := H
  cases v <;> simp only at q2 <;> try (first | omega | exact q2.elim)
  case slice b off len cap =>
    obtain ⟨rfl, q3, q4, q5, q6, us, esz, st, q7, q8, q9⟩ := q2
    have hne : Nat.beq cap m = false := by rw [← Bool.not_eq_true, Nat.beq_eq]; omega
    refine ⟨.slice b (off + m * 1) (len - m) (cap - m), ?_, rfl, fun j hj => ?_⟩
    · simp only [sliceV, sliceKnown, bound_none, bound_some (k := .i64) (m := m) (d := 0) (y := len) (by omega), hne, cond_false]
    · rw [ia_sl, ia_sl, if_pos (by omega), if_pos (by omega)]
      simp
      omega
  case gslice b off len idx =>
    obtain ⟨rfl, q3, q4, rfl, rfl, us, st, q7, q8, q9⟩ := q2
    have hlt : Nat.blt m len = true := by rw [Nat.blt_eq]; exact hm
    refine ⟨.gslice b (0 + m * 1) (len - m) (0 + m), ?_, rfl, fun j hj => ?_⟩
    · simp only [sliceV, sliceGrown, bound_none, bound_some (k := .i64) (m := m) (d := 0) (y := len) (by omega), hlt, cond_true]
    · rw [ia_g, ia_g, if_pos (by omega), if_pos (by omega)]
      simp
      omega
theorem repeat_len : ∀ n, (repeatV [.int .i64 0] n).length = n
  | 0 => rfl
  | n + 1 => by rw [repeatV, List.length_append, repeat_len n]; simp; omega
theorem repeat_ones : ∀ n, ones (repeatV [.int .i64 0] n) = true
  | 0 => rfl
  | n + 1 => by rw [repeatV]; exact ones_append rfl (repeat_ones n)
theorem splice_end {A W : List V} {m : Nat} (h : m + W.length = A.length) : splice A m W = A.take m ++ W := by
  unfold splice
  rw [h, List.drop_length, List.append_nil]
theorem SlO.wipe {B : Nat} {h : Heap} {v : V} {n : Nat} {vs : List V} (H : SlO B h 1 v n vs) {m : Nat} (hm : m < n) :
    ∃ v' h', sliceV 1 v (some (.int .i64 m)) none none = some v' ∧ clearV [.int .i64 0] v' h = .val (.tuple []) h' ∧ (∃ ws, SlO B h' 1 v n (vs.take m ++ ws)) ∧ Mod v.blk h h' := by
  obtain ⟨q1, q2⟩ := H
  have hrl := repeat_len (n - m)
  have hwl : (vs.take m ++ repeatV [.int .i64 0] (n - m)).length = vs.length := by rw [List.length_append, hrl, List.length_take]; omega
  have hne : Nat.beq (n - m) 0 = false := by rw [← Bool.not_eq_true, Nat.beq_eq]; omega
  cases v <;> simp only at q2 <;> try (first | omega | exact q2.elim)
  case slice b off len cap =>
    obtain ⟨rfl, q3, q4, q5, q6, us, esz, st, q7, q8, q9⟩ := q2
    have hnc : Nat.beq cap m = false := by rw [← Bool.not_eq_true, Nat.beq_eq]; omega
    have hw : Own h b us esz st := q7
    have e := hw.lay (off := off + m) (ws := repeatV [.int .i64 0] (len - m)) (by rw [hrl]; omega) (repeat_ones _)
    refine ⟨.slice b (off + m * 1) (len - m) (cap - m), _, ?_, ?_, ⟨repeatV [.int .i64 0] (len - m), by rw [hwl]; exact q1, rfl, q3, ?_, q5, q6, splice us (off + m) (repeatV [.int .i64 0] (len - m)), esz, st, by rw [get_set, if_pos rfl], ?_, ?_⟩, (Mod.refl (fun q => q = b) h).set (fun _ => rfl) _⟩
    · simp only [sliceV, sliceKnown, bound_none, bound_some (k := .i64) (m := m) (d := 0) (y := len) (by omega), hnc, cond_false]
    · simp only [clearV, hne, cond_false, Nat.mul_one, e]
    · unfold Old; rw [next_set]; exact q4
    · rw [splice_length _ _ _ (by rw [hrl]; omega)]; exact q8
    · have := splice_inner us off m vs (repeatV [.int .i64 0] (len - m)) (by omega) q9 (by rw [hrl]; omega)
      rw [hwl, this, splice_end (by rw [hrl]; omega)]
  case gslice b off len idx =>
    obtain ⟨rfl, q3, q4, rfl, rfl, us, st, q7, q8, q9⟩ := q2
    have hlt : Nat.blt m len = true := by rw [Nat.blt_eq]; exact hm
    have hw : Own h b us 1 st := q7
    have e := hw.lay (off := 0 + m) (ws := repeatV [.int .i64 0] (len - m)) (by rw [hrl]; omega) (repeat_ones _)
    refine ⟨.gslice b (0 + m * 1) (len - m) (0 + m), _, ?_, ?_, ⟨repeatV [.int .i64 0] (len - m), by rw [hwl]; exact q1, rfl, q3, ?_, rfl, rfl, splice us (0 + m) (repeatV [.int .i64 0] (len - m)), st, by rw [get_set, if_pos rfl], ?_, ?_⟩, (Mod.refl (fun q => q = b) h).set (fun _ => rfl) _⟩
    · simp only [sliceV, sliceGrown, bound_none, bound_some (k := .i64) (m := m) (d := 0) (y := len) (by omega), hlt, cond_true]
    · simp only [clearV, hne, cond_false, Nat.mul_one, e]
    · unfold Old; rw [next_set]; exact q4
    · rw [splice_length _ _ _ (by rw [hrl]; omega), hwl]; exact q8
    · have := splice_inner us 0 m vs (repeatV [.int .i64 0] (len - m)) (by omega) (by rw [List.drop_zero]; exact q9) (by rw [hrl]; omega)
      rw [List.drop_zero] at this
      rw [hwl, this, splice_end (by rw [hrl]; omega)]
end Go.Proofs.YtjbiefneffiogaaGreat

namespace Go.Proofs.YtjbiefneffiogaaGreat
open Go Am
theorem compact_small {l : List Int} (h : l.length < 2) : compact l = l := by
  match l, h with
  | [], _ => rfl
  | [x], _ => rfl
theorem w_dec {k : Nat} (h1 : 1 ≤ k) (h2 : k ≤ 4611686018427387904) : IntKind.i64.wrap ((k : Int) - 1) = ((k - 1 : Nat) : Int) := by
  rw [wrap_i64 (by omega) (by omega)]; omega
theorem intsV_set (l : List Int) (i : Nat) (x : Int) : (intsV l).set i (.int .i64 x) = intsV (l.set i x) := by
  simp [intsV, List.map_set]
set_option maxHeartbeats 1000000 in
theorem compact_ctr {B : Nat} {h : Heap} {v : V} {l : List Int} (O : SlO B h 1 v l.length (intsV l)) (hl : l.length ≤ 8000000) :
    Ctr Tryz.prog 52 [v] h fun x h' => SlO B h' 1 x (compact l).length (intsV (compact l)) ∧ Mod v.blk h h' ∧ ∀ b, x.blk b → v.blk b := by
  refine c52_ctr rfl (wpK_of ?_)
  unfold c52
  have hL := O.v.len
  by_cases h2 : l.length < 2
  · have g2 : ((l.length : Int) < 2) = True := eq_true (by omega)
    simp +contextual only [hL, g2, ↓wA, wC, Ex.ends, evR, oneOf, top, ↓reduceIte, Nat.reduceEqDiff, Nat.reduceLeDiff, Nat.reduceAdd, Nat.reduceSub, Nat.reduceMul, reduceCtorEq, Int.reduceEq, Int.reduceLT, Int.reduceLE, Int.reduceNeg]
    rw [compact_small h2]
    exact ⟨O, Mod.refl _ _, fun b q => trivial⟩
  have g2 : ((l.length : Int) < 2) = False := eq_false (by omega)
  simp +contextual only [hL, g2, ↓wA, wC, Ex.ends, evR, oneOf, top, ↓reduceIte, Nat.reduceEqDiff, Nat.reduceLeDiff, Nat.reduceAdd, Nat.reduceSub, Nat.reduceMul, reduceCtorEq, Int.reduceEq, Int.reduceLT, Int.reduceLE, Int.reduceNeg]
  refine loopK_intro (fun r h' => h' = h ∧ r 0 = v ∧ ∃ k : Nat, r 3 = .int .i64 k ∧ ∃ hk : 1 ≤ k ∧ k ≤ l.length, l.take k ++ compactF (l[k - 1]'(by omega)) (l.drop k) = compact l) (fun r h' => l.length - (r 3).toN) ?_ ?_
  · refine ⟨rfl, by simp only [↓wA, wC, ↓reduceIte, Nat.reduceEqDiff, reduceCtorEq], 1, by simp only [↓wA, wC, ↓reduceIte, Nat.reduceEqDiff, reduceCtorEq] <;> rfl, ⟨Nat.le_refl _, by omega⟩, ?_⟩
    match l, h2 with
    | x :: l, _ => rfl
  · rintro r h' ⟨rfl, r0, k, r3, ⟨hk1, hk2⟩, hc⟩
    unfold c52l2
    by_cases hlt : k < l.length
    · have g0 : ((k : Int) < (l.length : Int)) = True := eq_true (by omega)
      obtain ⟨b, o, ia, ld⟩ := ints_at O.v (k := .i64) hlt
      obtain ⟨b1, o1, ia1, ld1⟩ := ints_at O.v (k := .i64) (show k - 1 < l.length by omega)
      have wd := w_dec hk1 (by omega)
      have wi := w_inc hlt (by omega)
      rw [List.drop_eq_getElem_cons hlt, compactF] at hc
      by_cases he : l[k] = l[k - 1]
      · have ee := eq_true he
        rw [if_pos he] at hc
        obtain ⟨v2, t1, t2, t3⟩ := SlO.tail O hlt
        simp +contextual only [r0, r3, hL, g0, ia, ld, wd, ia1, ld1, ee, t1, ↓wA, wC, Ex.ends, evR, oneOf, top, ↓reduceIte, Nat.reduceEqDiff, Nat.reduceLeDiff, Nat.reduceAdd, Nat.reduceSub, Nat.reduceMul, reduceCtorEq, Int.reduceEq, Int.reduceLT, Int.reduceLE, Int.reduceNeg]
        refine loopK_intro (fun r h2 => Mod v.blk h' h2 ∧ r 0 = v ∧ r 4 = v2 ∧ ∃ (k1 j : Nat) (m : List Int), r 3 = .int .i64 k1 ∧ r 5 = .int .i64 j ∧ SlO B h2 1 v l.length (intsV m) ∧ m.length = l.length ∧ 1 ≤ k1 ∧ 1 ≤ j ∧ k1 + 1 ≤ k + j ∧ ∃ hj : k + j ≤ l.length, m.take k1 ++ compactF (l[k + j - 1]'(by omega)) (l.drop (k + j)) = compact l ∧ ∀ q, k + j ≤ q + 1 → m[q]? = l[q]?) (fun r h' => l.length - (r 5).toN) ?_ ?_
        · refine ⟨Mod.refl _ _, by simp only [r0, ↓wA, wC, ↓reduceIte, Nat.reduceEqDiff, reduceCtorEq], by simp only [↓wA, wC, ↓reduceIte, Nat.reduceEqDiff, reduceCtorEq], k, 1, l, by simp only [r3, ↓wA, wC, ↓reduceIte, Nat.reduceEqDiff, reduceCtorEq], by simp only [↓wA, wC, ↓reduceIte, Nat.reduceEqDiff, reduceCtorEq] <;> rfl, O, rfl, hk1, Nat.le_refl _, Nat.le_refl _, hlt, ?_, fun q _ => rfl⟩
          rw [← hc]
          congr 2
        · clear r0 r3
          rintro r h2 ⟨hm, r0, r4, k1, j, m, r3, r5, Om, hml, hk11, hj1, hkj, hj, hcm, hq⟩
          unfold c52l1
          by_cases hjl : k + j < l.length
          · have gj : ((j : Int) < ((l.length - k : Nat) : Int)) = True := eq_true (by omega)
            have Om' : SlV h2 1 v m.length (intsV m) := by rw [hml]; exact Om.v
            obtain ⟨b3, o3, ia3, ld3⟩ := ints_at Om' (k := .i64) (show k + j < m.length by omega)
            obtain ⟨b4, o4, ia4, ld4⟩ := ints_at Om' (k := .i64) (show k + (j - 1) < m.length by omega)
            obtain ⟨b5, o5, ia5, ld5⟩ := ints_at Om' (k := .i64) (show k1 < m.length by omega)
            have ha5 := at_ia Om' (show k1 < m.length by omega) ia5
            rw [← t3 j (by omega)] at ia3
            rw [← t3 (j - 1) (by omega)] at ia4
            have hv3 : m[k + j]'(by omega) = l[k + j] := by
              have := hq (k + j) (by omega)
              rw [List.getElem?_eq_getElem (by omega), List.getElem?_eq_getElem hjl] at this
              exact Option.some.inj this
            have hv4 : m[k + (j - 1)]'(by omega) = l[k + j - 1]'(by omega) := by
              have := hq (k + j - 1) (by omega)
              rw [List.getElem?_eq_getElem (by omega), List.getElem?_eq_getElem (by omega)] at this
              have e : k + (j - 1) = k + j - 1 := by omega
              simp only [e]
              exact Option.some.inj this
            rw [hv3] at ld3
            rw [hv4] at ld4
            have wdj := w_dec hj1 (by omega)
            have wij := w_inc (i := j) (n := l.length) (by omega) (by omega)
            have wik := w_inc (i := k1) (n := l.length) (by omega) (by omega)
            rw [List.drop_eq_getElem_cons hjl, compactF] at hcm
            have hidx : k + (j + 1) - 1 = k + j := by omega
            by_cases hne : l[k + j] = l[k + j - 1]
            · have en := eq_true hne
              rw [if_pos hne] at hcm
              simp +contextual only [r0, r3, r4, r5, t2, gj, ia3, ld3, wdj, ia4, ld4, en, wij, ↓wA, wC, Ex.ends, evR, oneOf, top, ↓reduceIte, Nat.reduceEqDiff, Nat.reduceLeDiff, Nat.reduceAdd, Nat.reduceSub, Nat.reduceMul, reduceCtorEq, Int.reduceEq, Int.reduceLT, Int.reduceLE, Int.reduceNeg]
              refine ⟨⟨hm, k1, j + 1, m, rfl, rfl, Om, hml, hk11, by omega, by omega, hjl, ?_, fun q hq' => hq q (by omega)⟩, by omega⟩
              simp only [hidx, hne]
              exact hcm
            · have en := eq_false hne
              rw [if_neg hne] at hcm
              obtain ⟨K, p1, p2, p3, p4⟩ := Om.putc ha5 (c := k1 * 1) (y := .int .i64 l[k + j]) (by rw [intsV_len]; omega) rfl rfl
              rw [Nat.mul_one, intsV_set] at p3
              have hm2 : Mod v.blk h' (h2.set b5 K) := hm.set (fun _ => p4) _
              simp +contextual only [r0, r3, r4, r5, t2, gj, ia3, ld3, wdj, ia4, ld4, en, ia5, p1, wij, wik, ↓wA, wC, Ex.ends, evR, oneOf, top, ↓reduceIte, Nat.reduceEqDiff, Nat.reduceLeDiff, Nat.reduceAdd, Nat.reduceSub, Nat.reduceMul, reduceCtorEq, Int.reduceEq, Int.reduceLT, Int.reduceLE, Int.reduceNeg]
              refine ⟨⟨hm2, k1 + 1, j + 1, m.set k1 l[k + j], rfl, rfl, p3, by rw [List.length_set]; exact hml, by omega, by omega, by omega, hjl, ?_, fun q hq' => ?_⟩, by omega⟩
              · simp only [hidx]
                rw [← hcm, List.take_succ_eq_append_getElem (by rw [List.length_set]; omega), List.getElem_set_self, List.take_set_of_le (Nat.le_refl _)]
                simp only [List.append_assoc, List.cons_append, List.nil_append]
                rfl
              · rw [List.getElem?_set_ne (by omega)]
                exact hq q (by omega)
          · have gj : ((j : Int) < ((l.length - k : Nat) : Int)) = False := eq_false (by omega)
            rw [List.drop_eq_nil_of_le (by omega), compactF, List.append_nil] at hcm
            obtain ⟨v3, h3, y1, y2, ⟨ws, y3⟩, y4⟩ := SlO.wipe Om (m := k1) (by omega)
            obtain ⟨v4, z1, z2, z3⟩ := y3.cut (k := .i64) (m := k1) (by omega) (by omega)
            rw [Nat.mul_one, intsV_take, List.take_append_of_le_length (by rw [intsV_len, List.length_take]; omega), intsV_take, List.take_take, Nat.min_self, hcm] at z2
            have hkl : k1 = (compact l).length := by rw [← hcm, List.length_take]; omega
            simp +contextual only [r0, r3, r4, r5, t2, gj, y1, y2, z1, k_clr, ↓wA, wC, Ex.ends, evR, oneOf, top, ↓reduceIte, Nat.reduceEqDiff, Nat.reduceLeDiff, Nat.reduceAdd, Nat.reduceSub, Nat.reduceMul, reduceCtorEq, Int.reduceEq, Int.reduceLT, Int.reduceLE, Int.reduceNeg]
            rw [← hkl]
            exact ⟨z2, hm.trans y4, z3⟩
      · have ee := eq_false he
        rw [if_neg he] at hc
        simp +contextual only [r0, r3, hL, g0, ia, ld, wd, ia1, ld1, ee, wi, ↓wA, wC, Ex.ends, evR, oneOf, top, ↓reduceIte, Nat.reduceEqDiff, Nat.reduceLeDiff, Nat.reduceAdd, Nat.reduceSub, Nat.reduceMul, reduceCtorEq, Int.reduceEq, Int.reduceLT, Int.reduceLE, Int.reduceNeg]
        refine ⟨⟨k + 1, rfl, ⟨by omega, hlt⟩, ?_⟩, by omega⟩
        rw [← hc, List.take_succ_eq_append_getElem hlt]
        simp only [List.append_assoc, List.cons_append, List.nil_append, Nat.add_sub_cancel]
    · have g0 : ((k : Int) < (l.length : Int)) = False := eq_false (by omega)
      rw [List.drop_eq_nil_of_le (by omega), compactF, List.append_nil, List.take_of_length_le (by omega)] at hc
      simp +contextual only [r0, r3, hL, g0, ↓wA, wC, Ex.ends, evR, oneOf, top, ↓reduceIte, Nat.reduceEqDiff, Nat.reduceLeDiff, Nat.reduceAdd, Nat.reduceSub, Nat.reduceMul, reduceCtorEq, Int.reduceEq, Int.reduceLT, Int.reduceLE, Int.reduceNeg]
      rw [← hc]
      exact ⟨O, Mod.refl _ _, fun b q => trivial⟩
end Go.Proofs.YtjbiefneffiogaaGreat

namespace Go.Proofs.YtjbiefneffiogaaGreat
open Go Am
def boundM (c : Co) : List Int := if may ownP c then rising (order c) else []
def freeM (c : Co) : List Int := if may ownP c then rising (free c []) else []
def sizeM (c : Co) : Int := if may ownP c then (size c : Int) else 0
def checkM (c : Co) : Int := if !may ownP c then 2 else if (order c).length ≠ (rising (order c)).length then 7 else if 0 < (rising (free c [])).length then 6 else 0
theorem may_ref {c : Co} (hw : wt c ≤ 400) : may (fun b c => ownR b c) c = may ownP c := (may_same c (few_of_fit (m := 1048576) (by omega) c (fit_of_wt c hw))).symm
theorem ok_of {c : Co} (hw : wt c ≤ 400) (h : may ownP c = true) : okC c := ok_of_may c (by rw [may_ref hw]; exact h)
theorem order_small {c : Co} (hw : wt c ≤ 400) : (order c).length ≤ 1200 := by have := order_len c; have := size_wt c; omega
def NewS (h h' : Heap) (l : List Int) (x : V) : Prop := SlO h.next h' 1 x l.length (intsV l) ∧ Ext h h'
theorem NewS.nil (h : Heap) : NewS h h [] .nilslice := ⟨⟨rfl, rfl⟩, Ext.refl _⟩
theorem NewS.from {h h1 h' : Heap} {l : List Int} {x : V} (H : NewS h1 h' l x) (e : Ext h h1) : NewS h h' l x := ⟨H.1.mono e.next, e.trans H.2⟩
section
variable (c : Co) (vs : List V) (h : Heap) (H : CoIn h c vs) (hw : wt c ≤ 400)
include H hw
theorem mayW : Ctr Tryz.prog 44 [.agg vs] h fun x h' => x = .bool (may ownP c) ∧ Ext h h' := may_ctr (size c) c (Nat.le_refl _) (fit_of_wt c hw) vs h H
theorem Size_ctr : Ctr Tryz.prog 22 [.agg vs] h fun x h' => x = .int .i64 (sizeM c) ∧ Ext h h' := by
  have hsz := size_wt c
  obtain ⟨va, vt, vl, rfl, Ha, Ht, Hl⟩ := H.open
  refine c22_ctr rfl (wpK_of ?_)
  unfold c22
  have e0 : Ext h (h.new (.ofL [.int .i64 c.k, .int .i64 c.x, .int .i64 c.n, .str c.s, va, vt, vl] 0 false)) := (Ext.refl h).new _
  have cb : (h.new (.ofL [.int .i64 c.k, .int .i64 c.x, .int .i64 c.n, .str c.s, va, vt, vl] 0 false)).get (pa h.next) = .ofL [.int .i64 c.k, .int .i64 c.x, .int .i64 c.n, .str c.s, va, vt, vl] 0 false := get_new_self _
  simp +contextual only [↓wA, wC, Ex.ends, evR, oneOf, top, ↓reduceIte, Nat.reduceEqDiff, Nat.reduceLeDiff, Nat.reduceAdd, Nat.reduceSub, Nat.reduceMul, reduceCtorEq, Int.reduceEq, Int.reduceLT, Int.reduceLE, Int.reduceNeg]
  refine callK_intro (mayW c _ _ (H.ext e0) hw) ?_
  rintro x h1 ⟨rfl, e1⟩
  have bx : h1.get (pa h.next) = .ofL [.int .i64 c.k, .int .i64 c.x, .int .i64 c.n, .str c.s, va, vt, vl] 0 false := by rw [e1.get _ (old_lt (by rw [next_new]; omega))]; exact cb
  unfold sizeM
  cases hm : may ownP c with
  | false =>
    simp +contextual only [↓wA, wC, Ex.ends, evR, oneOf, top, ↓reduceIte, Nat.reduceEqDiff, Nat.reduceLeDiff, Nat.reduceAdd, Nat.reduceSub, Nat.reduceMul, reduceCtorEq, Int.reduceEq, Int.reduceLT, Int.reduceLE, Int.reduceNeg]
    exact e0.trans e1
  | true =>
    simp +contextual only [bx, ↓wA, wC, Ex.ends, evR, oneOf, top, ↓reduceIte, Nat.reduceEqDiff, Nat.reduceLeDiff, Nat.reduceAdd, Nat.reduceSub, Nat.reduceMul, reduceCtorEq, Int.reduceEq, Int.reduceLT, Int.reduceLE, Int.reduceNeg]
    refine callK_intro (size_ctr (size c) c (Nat.le_refl _) (by omega) _ _ (H.ext (e0.trans e1))) ?_
    rintro x h2 ⟨rfl, e2⟩
    simp +contextual only [↓wA, wC, Ex.ends, evR, oneOf, top, ↓reduceIte, Nat.reduceEqDiff, Nat.reduceLeDiff, Nat.reduceAdd, Nat.reduceSub, Nat.reduceMul, reduceCtorEq, Int.reduceEq, Int.reduceLT, Int.reduceLE, Int.reduceNeg]
    exact (e0.trans e1).trans e2
theorem Bound_ctr : Ctr Tryz.prog 25 [.agg vs] h fun x h' => NewS h h' (boundM c) x := by
  have hol := order_small hw
  obtain ⟨va, vt, vl, rfl, Ha, Ht, Hl⟩ := H.open
  refine c25_ctr rfl (wpK_of ?_)
  unfold c25
  have e0 : Ext h (h.new (.ofL [.int .i64 c.k, .int .i64 c.x, .int .i64 c.n, .str c.s, va, vt, vl] 0 false)) := (Ext.refl h).new _
  have cb : (h.new (.ofL [.int .i64 c.k, .int .i64 c.x, .int .i64 c.n, .str c.s, va, vt, vl] 0 false)).get (pa h.next) = .ofL [.int .i64 c.k, .int .i64 c.x, .int .i64 c.n, .str c.s, va, vt, vl] 0 false := get_new_self _
  simp +contextual only [↓wA, wC, Ex.ends, evR, oneOf, top, ↓reduceIte, Nat.reduceEqDiff, Nat.reduceLeDiff, Nat.reduceAdd, Nat.reduceSub, Nat.reduceMul, reduceCtorEq, Int.reduceEq, Int.reduceLT, Int.reduceLE, Int.reduceNeg]
  refine callK_intro (mayW c _ _ (H.ext e0) hw) ?_
  rintro x h1 ⟨rfl, e1⟩
  have bx : h1.get (pa h.next) = .ofL [.int .i64 c.k, .int .i64 c.x, .int .i64 c.n, .str c.s, va, vt, vl] 0 false := by rw [e1.get _ (old_lt (by rw [next_new]; omega))]; exact cb
  unfold boundM
  cases hm : may ownP c with
  | false =>
    simp +contextual only [↓wA, wC, Ex.ends, evR, oneOf, top, ↓reduceIte, Nat.reduceEqDiff, Nat.reduceLeDiff, Nat.reduceAdd, Nat.reduceSub, Nat.reduceMul, reduceCtorEq, Int.reduceEq, Int.reduceLT, Int.reduceLE, Int.reduceNeg]
    exact (NewS.nil h1).from (e0.trans e1)
  | true =>
    simp +contextual only [bx, ↓wA, wC, Ex.ends, evR, oneOf, top, ↓reduceIte, Nat.reduceEqDiff, Nat.reduceLeDiff, Nat.reduceAdd, Nat.reduceSub, Nat.reduceMul, reduceCtorEq, Int.reduceEq, Int.reduceLT, Int.reduceLE, Int.reduceNeg]
    refine callK_intro (Order_ctr c _ _ (H.ext (e0.trans e1)) (fit_of_wt c hw) (ok_of hw hm) (by omega)) ?_
    rintro x h2 ⟨O2, e2⟩
    simp +contextual only [↓wA, wC, Ex.ends, evR, oneOf, top, ↓reduceIte, Nat.reduceEqDiff, Nat.reduceLeDiff, Nat.reduceAdd, Nat.reduceSub, Nat.reduceMul, reduceCtorEq, Int.reduceEq, Int.reduceLT, Int.reduceLE, Int.reduceNeg]
    refine callK_intro (sort_ctr O2 (by omega)) ?_
    rintro y h3 ⟨rfl, O3, m3⟩
    have hsl : (sortZ (order c)).length = (order c).length := (sortZ_perm _).length_eq
    rw [← hsl] at O3
    simp +contextual only [↓wA, wC, Ex.ends, evR, oneOf, top, ↓reduceIte, Nat.reduceEqDiff, Nat.reduceLeDiff, Nat.reduceAdd, Nat.reduceSub, Nat.reduceMul, reduceCtorEq, Int.reduceEq, Int.reduceLT, Int.reduceLE, Int.reduceNeg]
    refine callK_intro (compact_ctr O3 (by omega)) ?_
    rintro z h4 ⟨O4, m4, b4⟩
    rw [compact_sorted (sortZ_sorted (order c)) (sortZ_perm _)] at O4
    simp +contextual only [↓wA, wC, Ex.ends, evR, oneOf, top, ↓reduceIte, Nat.reduceEqDiff, Nat.reduceLeDiff, Nat.reduceAdd, Nat.reduceSub, Nat.reduceMul, reduceCtorEq, Int.reduceEq, Int.reduceLT, Int.reduceLE, Int.reduceNeg]
    have e4 : Ext h1 h4 := e2.mod_new (m3.trans m4) (fun b q => O2.base q)
    exact NewS.from ⟨O4, e4⟩ (e0.trans e1)
end
end Go.Proofs.YtjbiefneffiogaaGreat
