/- The chapter's functions, walked by the abstract machine: plain lemmas, no condition. -/
import Derived.Test.YtjbiefneffiogaaGreatM9

namespace Go.Proofs.YtjbiefneffiogaaGreat
open Go Am Go.Sort
set_option linter.unusedSectionVars false
set_option linter.unusedSimpArgs false
set_option linter.unusedVariables false

theorem putCells_layC {l : List Int} {c : Array Value} {o : Nat} (h : o + l.length ≤ c.size) : Go.Sort.putCells (Value.int .i64) o l.toArray c = layC c o (l.map (Value.int .i64)) := by
  apply Array.ext_getElem?
  intro j
  rw [layC_get _ _ _ _ (by rw [List.length_map]; exact h), List.length_map]
  unfold Go.Sort.putCells
  rw [Array.getElem?_mapIdx]
  by_cases hj : o ≤ j ∧ j < o + l.length
  · rw [if_pos hj, List.getElem?_map]
    have hjc : j < c.size := by omega
    have hjl : j - o < l.length := by omega
    simp only [Array.getElem?_eq_getElem hjc, Option.map_some, List.size_toArray, if_pos hj, List.getElem?_eq_getElem hjl, Option.some.injEq, Value.int.injEq, true_and]
    simp [hjl]
  · rw [if_neg hj]
    cases hc : c[j]? with
    | none => rfl
    | some y => simp only [Option.map_some, List.size_toArray, if_neg hj]

/-- a row of numbers, sorted where it lies -/
theorem sort_callsV {h h' : Heap} {b : Pa} {off : Nat} {l : List Int} {vs : List V} {esz : Nat} {st : Bool} (hg : h.get b = .ofL vs esz st) (hcs : (vs.drop off).take l.length = intsV l) (hl : off + l.length ≤ vs.length) (hl2 : l.length < 4611686018427387904)
    (he : Am.lay h b off (intsV (sortZ l)) = some h') {v : V} (hv : (∃ cap, v = .slice b off l.length cap) ∨ ∃ idx, v = .gslice b off l.length idx) : CallsV Tryz.prog 51 [v] h (.tuple []) h' := by
  refine .inl ⟨⟨_, Tryz.func51, by kernel_rfl⟩, fun w0 E w xs hx s => ?_⟩
  simp only [RelL] at hx
  obtain ⟨X, _, rfl, hX, rfl⟩ := hx
  have hX' : ∃ p cap, E b = some p ∧ X = .slice (some ⟨p.blk, p.base + off, none⟩) l.length cap := by
    rcases hv with ⟨cap, rfl⟩ | ⟨idx, rfl⟩
    · simp only [Rel] at hX
      obtain ⟨p, h1, _, h2⟩ := hX
      exact ⟨p, _, h1, h2⟩
    · simp only [Rel] at hX
      obtain ⟨p, h1, _, h2⟩ := hX
      exact ⟨p, _, h1, h2⟩
  obtain ⟨p, cap, hp, rfl⟩ := hX'
  have hb := s.at hp
  rw [hg] at hb
  obtain ⟨hn, q, c, el, fz, h1, h2, h3, h4, h5, h6, h7⟩ := hb
  rw [hp] at h1; cases h1
  have hlt := (Array.getElem?_eq_some_iff.1 h3).1
  have hcz : p.base + vs.length ≤ c.size := h7.1
  have hH : Go.Sort.Holds (Value.int .i64) w p.blk (p.base + off) l.toArray := by
    intro j hj
    have hj' : j < l.length := by simpa using hj
    have hjc : p.base + (off + j) < c.size := by omega
    have hrel := h7.2 (off + j) c[p.base + (off + j)] (by omega) (Array.getElem?_eq_getElem hjc)
    have hcell : vs[off + j]? = some (.int .i64 l[j]) := by
      have e : ((vs.drop off).take l.length)[j]? = (intsV l)[j]? := by rw [hcs]
      rw [List.getElem?_take_of_lt hj', List.getElem?_drop] at e
      rw [e]
      simp [intsV, hj']
    have hget : T.get .bad (pa (off + j)) (puts .e 0 vs) = .int .i64 l[j] := by
      have := get_puts vs 0 (off + j) .e
      rw [Nat.zero_add] at this
      rw [this, if_pos (by omega), hcell]; rfl
    rw [hget] at hrel
    simp only [Rel] at hrel
    constructor
    · simp only [World.cell?, h3]
      rw [show p.base + off + j = p.base + (off + j) from by omega, Array.getElem?_eq_getElem hjc, hrel]
      simp [hj']
    · simp only [World.frozen?, h3]
      rw [Bool.and_eq_false_iff]
      simp only [decide_eq_false_iff_not]
      omega
  refine (AnyM.slices_Sort_int Tryz.sortA p.blk (p.base + off) cap l w hH hlt hl2).mono fun e w' q => ?_
  obtain ⟨rfl, n, os, rfl⟩ := q
  rw [sortZ_eq (List.Perm.refl l)]
  have hsl : (sortZ l).length = l.length := (sortZ_perm l).length_eq
  obtain ⟨w1, r1, s1⟩ := lay_sound (P := Tryz.prog) s (intsV_rel E (sortZ l)) he hp
  have r2 := run_storeCells (P := Tryz.prog) hlt el fz (p.base + off) ((sortZ l).map encZ) c 0 (fun v hv => by
    obtain ⟨z, _, rfl⟩ := List.mem_map.1 hv
    rfl) (by rw [List.length_map]; omega) h4
  rw [withC_same h3, Nat.add_zero] at r2
  rw [r2] at r1
  have hw1 : w1 = withC w p.blk (layC c (p.base + off) ((sortZ l).map encZ)) el fz := by injection r1 with _ e; exact e.symm
  subst hw1
  refine ⟨E, _, rfl, fun _ _ q => q, by simp only [Rel]; exact ⟨_, rfl, rfl⟩, s1.below ⟨rfl, rfl, rfl, ?_, fun k hk => ?_⟩⟩
  · simp only [size_grow, withC_size, putRow, mapBlock, Sort.ahead, Array.size_modify]; omega
  · rw [withC_size] at hk
    have e1 : (grow (putRow (Value.int .i64) (Sort.ahead w n) p.blk (p.base + off) (sortZ l).toArray) os).heap[k]? = (putRow (Value.int .i64) (Sort.ahead w n) p.blk (p.base + off) (sortZ l).toArray).heap[k]? := by
      simp only [grow]
      rw [Array.getElem?_append_left]
      simp only [putRow, mapBlock, Sort.ahead, Array.size_modify]
      exact hk
    rw [e1]
    simp only [putRow, mapBlock, Sort.ahead, Array.getElem?_modify]
    by_cases hkb : p.blk = k
    · subst hkb
      rw [if_pos rfl, h3, withC_heap hlt]
      simp only [Option.map_some, onCells]
      rw [putCells_layC (by omega)]
    · rw [if_neg hkb, withC_other _ _ _ (fun e => hkb e.symm)]

theorem splice_all {A B : List V} (h : B.length = A.length) : splice A 0 B = B := by
  unfold splice
  rw [List.take_zero, List.nil_append, Nat.zero_add, List.drop_eq_nil_of_le (by omega), List.append_nil]
theorem sort_ctr {B : Nat} {h : Heap} {v : V} {l : List Int} (O : SlO B h 1 v l.length (intsV l)) (hl : l.length ≤ 8000000) :
    Ctr Tryz.prog 51 [v] h fun x h' => x = .tuple [] ∧ SlO B h' 1 v l.length (intsV (sortZ l)) ∧ Mod v.blk h h' := by
  have hs : (sortZ l).length = l.length := (sortZ_perm l).length_eq
  have hil : (intsV (sortZ l)).length = l.length := by rw [intsV_len, hs]
  obtain ⟨q1, q2⟩ := O
  cases v <;> simp only at q2 <;> try (exact q2.elim)
  case nilslice =>
    have : l = [] := List.eq_nil_of_length_eq_zero q2
    subst this
    refine ⟨_, h, .inl ⟨⟨_, Tryz.func51, by kernel_rfl⟩, fun w0 E w xs hx s => ?_⟩, rfl, ⟨rfl, rfl⟩, Mod.refl _ _⟩
    simp only [RelL, Rel] at hx
    obtain ⟨X, _, rfl, rfl, rfl⟩ := hx
    refine (AnyM.slices_Sort_int_none Tryz.sortA none 0 w).mono fun e w' q => ?_
    obtain ⟨rfl, rfl⟩ := q
    exact ⟨E, _, rfl, fun _ _ q => q, by simp only [Rel]; exact ⟨_, rfl, rfl⟩, s⟩
  case slice b off len cap =>
    obtain ⟨rfl, q3, q4, q5, q6, us, esz, st, q7, q8, q9⟩ := q2
    rw [intsV_len] at q9
    have hw : Own h b us esz st := q7
    have e := hw.lay (off := off) (ws := intsV (sortZ l)) (by rw [hil]; omega) (intsV_ones _)
    refine ⟨_, _, sort_callsV q7 q9 (by omega) (by omega) e (.inl ⟨cap, rfl⟩), rfl, ⟨by rw [hil]; omega, rfl, q3, ?_, q5, q6, ?_⟩, ?_⟩
    · unfold Old; rw [next_set]; exact q4
    · refine ⟨_, esz, st, by rw [get_set, if_pos rfl], by rw [splice_length _ _ _ (by rw [hil]; omega)]; exact q8, ?_⟩
      have := splice_inner us off 0 (intsV l) (intsV (sortZ l)) (by rw [intsV_len]; omega) (by rw [intsV_len]; exact q9) (by rw [hil, intsV_len]; omega)
      rw [hil]
      rw [intsV_len, Nat.add_zero] at this
      rw [this, splice_all (by rw [hil, intsV_len])]
    · exact (Mod.refl (fun q => q = b) h).set (fun _ => rfl) _
  case gslice b off len idx =>
    obtain ⟨rfl, q3, q4, rfl, rfl, us, st, q7, q8, q9⟩ := q2
    rw [intsV_len] at q9 q8
    have hw : Own h b us 1 st := q7
    have e := hw.lay (off := 0) (ws := intsV (sortZ l)) (by rw [hil]; omega) (intsV_ones _)
    refine ⟨_, _, sort_callsV q7 (by rw [List.drop_zero]; exact q9) (by omega) (by omega) e (.inr ⟨0, rfl⟩), rfl, ⟨by rw [hil]; omega, rfl, q3, ?_, rfl, rfl, ?_⟩, ?_⟩
    · unfold Old; rw [next_set]; exact q4
    · refine ⟨_, st, by rw [get_set, if_pos rfl], by rw [splice_length _ _ _ (by rw [hil]; omega), hil]; exact q8, ?_⟩
      have := splice_inner us 0 0 (intsV l) (intsV (sortZ l)) (by rw [intsV_len]; omega) (by rw [intsV_len, List.drop_zero]; exact q9) (by rw [hil, intsV_len]; omega)
      rw [hil]
      rw [intsV_len, Nat.add_zero, List.drop_zero] at this
      rw [this, splice_all (by rw [hil, intsV_len])]
    · exact (Mod.refl (fun q => q = b) h).set (fun _ => rfl) _
end Go.Proofs.YtjbiefneffiogaaGreat

namespace Go.Proofs.YtjbiefneffiogaaGreat
open Go Am
set_option linter.unusedSectionVars false
set_option linter.unusedSimpArgs false
set_option linter.unusedVariables false

/-- the end of a slice of one's own: its elements are those behind -/
theorem SlO.tail {B : Nat} {h : Heap} {v : V} {n : Nat} {vs : List V} (H : SlO B h 1 v n vs) {m : Nat} (hm : m < n) :
    ∃ v', sliceV 1 v (some (.int .i64 m)) none none = some v' ∧ lenSl v' = some (.int .i64 ((n - m : Nat) : Int)) ∧ ∀ j : Nat, m + j < n → iaV 1 v' (.int .i64 j) = iaV 1 v (.int .i64 ((m + j : Nat) : Int)) := by
  obtain ⟨q1, q2⟩ := H
  cases v <;> simp only at q2 <;> try (first | omega | exact q2.elim)
  case slice b off len cap =>
    obtain ⟨rfl, q3, q4, q5, q6, us, esz, st, q7, q8, q9⟩ := q2
    have hne : Nat.beq cap m = false := by rw [← Bool.not_eq_true, Nat.beq_eq]; omega
    refine ⟨.slice b (off + m * 1) (len - m) (cap - m), ?_, rfl, fun j hj => ?_⟩
    · simp only [sliceV, sliceKnown, bound_none, bound_some (k := .i64) (m := m) (d := 0) (y := len) (by omega), hne, cond_false]
    · rw [ia_sl, ia_sl, if_pos (by omega), if_pos (by omega)]
      simp
      omega
  case gslice b off len idx =>
    obtain ⟨rfl, q3, q4, rfl, rfl, us, st, q7, q8, q9⟩ := q2
    have hlt : Nat.blt m len = true := by rw [Nat.blt_eq]; exact hm
    refine ⟨.gslice b (0 + m * 1) (len - m) (0 + m), ?_, rfl, fun j hj => ?_⟩
    · simp only [sliceV, sliceGrown, bound_none, bound_some (k := .i64) (m := m) (d := 0) (y := len) (by omega), hlt, cond_true]
    · rw [ia_g, ia_g, if_pos (by omega), if_pos (by omega)]
      simp
      omega

theorem repeat_len : ∀ n, (repeatV [.int .i64 0] n).length = n
  | 0 => rfl
  | n + 1 => by rw [repeatV, List.length_append, repeat_len n]; simp; omega
theorem repeat_ones : ∀ n, ones (repeatV [.int .i64 0] n) = true
  | 0 => rfl
  | n + 1 => by rw [repeatV]; exact ones_append rfl (repeat_ones n)
theorem splice_end {A W : List V} {m : Nat} (h : m + W.length = A.length) : splice A m W = A.take m ++ W := by
  unfold splice
  rw [h, List.drop_length, List.append_nil]
/-- .. made zero -/
theorem SlO.wipe {B : Nat} {h : Heap} {v : V} {n : Nat} {vs : List V} (H : SlO B h 1 v n vs) {m : Nat} (hm : m < n) :
    ∃ v' h', sliceV 1 v (some (.int .i64 m)) none none = some v' ∧ clearV [.int .i64 0] v' h = .val (.tuple []) h' ∧ (∃ ws, SlO B h' 1 v n (vs.take m ++ ws)) ∧ Mod v.blk h h' := by
  obtain ⟨q1, q2⟩ := H
  have hrl := repeat_len (n - m)
  have hwl : (vs.take m ++ repeatV [.int .i64 0] (n - m)).length = vs.length := by rw [List.length_append, hrl, List.length_take]; omega
  have hne : Nat.beq (n - m) 0 = false := by rw [← Bool.not_eq_true, Nat.beq_eq]; omega
  cases v <;> simp only at q2 <;> try (first | omega | exact q2.elim)
  case slice b off len cap =>
    obtain ⟨rfl, q3, q4, q5, q6, us, esz, st, q7, q8, q9⟩ := q2
    have hnc : Nat.beq cap m = false := by rw [← Bool.not_eq_true, Nat.beq_eq]; omega
    have hw : Own h b us esz st := q7
    have e := hw.lay (off := off + m) (ws := repeatV [.int .i64 0] (len - m)) (by rw [hrl]; omega) (repeat_ones _)
    refine ⟨.slice b (off + m * 1) (len - m) (cap - m), _, ?_, ?_, ⟨repeatV [.int .i64 0] (len - m), by rw [hwl]; exact q1, rfl, q3, ?_, q5, q6, splice us (off + m) (repeatV [.int .i64 0] (len - m)), esz, st, by rw [get_set, if_pos rfl], ?_, ?_⟩, (Mod.refl (fun q => q = b) h).set (fun _ => rfl) _⟩
    · simp only [sliceV, sliceKnown, bound_none, bound_some (k := .i64) (m := m) (d := 0) (y := len) (by omega), hnc, cond_false]
    · simp only [clearV, hne, cond_false, Nat.mul_one, e]
    · unfold Old; rw [next_set]; exact q4
    · rw [splice_length _ _ _ (by rw [hrl]; omega)]; exact q8
    · have := splice_inner us off m vs (repeatV [.int .i64 0] (len - m)) (by omega) q9 (by rw [hrl]; omega)
      rw [hwl, this, splice_end (by rw [hrl]; omega)]
  case gslice b off len idx =>
    obtain ⟨rfl, q3, q4, rfl, rfl, us, st, q7, q8, q9⟩ := q2
    have hlt : Nat.blt m len = true := by rw [Nat.blt_eq]; exact hm
    have hw : Own h b us 1 st := q7
    have e := hw.lay (off := 0 + m) (ws := repeatV [.int .i64 0] (len - m)) (by rw [hrl]; omega) (repeat_ones _)
    refine ⟨.gslice b (0 + m * 1) (len - m) (0 + m), _, ?_, ?_, ⟨repeatV [.int .i64 0] (len - m), by rw [hwl]; exact q1, rfl, q3, ?_, rfl, rfl, splice us (0 + m) (repeatV [.int .i64 0] (len - m)), st, by rw [get_set, if_pos rfl], ?_, ?_⟩, (Mod.refl (fun q => q = b) h).set (fun _ => rfl) _⟩
    · simp only [sliceV, sliceGrown, bound_none, bound_some (k := .i64) (m := m) (d := 0) (y := len) (by omega), hlt, cond_true]
    · simp only [clearV, hne, cond_false, Nat.mul_one, e]
    · unfold Old; rw [next_set]; exact q4
    · rw [splice_length _ _ _ (by rw [hrl]; omega), hwl]; exact q8
    · have := splice_inner us 0 m vs (repeatV [.int .i64 0] (len - m)) (by omega) (by rw [List.drop_zero]; exact q9) (by rw [hrl]; omega)
      rw [List.drop_zero] at this
      rw [hwl, this, splice_end (by rw [hrl]; omega)]
end Go.Proofs.YtjbiefneffiogaaGreat

namespace Go.Proofs.YtjbiefneffiogaaGreat
open Go Am
set_option linter.unusedSectionVars false
set_option linter.unusedSimpArgs false
set_option linter.unusedVariables false

theorem compact_small {l : List Int} (h : l.length < 2) : compact l = l := by
  match l, h with
  | [], _ => rfl
  | [x], _ => rfl
theorem w_dec {k : Nat} (h1 : 1 ≤ k) (h2 : k ≤ 4611686018427387904) : IntKind.i64.wrap ((k : Int) - 1) = ((k - 1 : Nat) : Int) := by
  rw [wrap_i64 (by omega) (by omega)]; omega
theorem intsV_set (l : List Int) (i : Nat) (x : Int) : (intsV l).set i (.int .i64 x) = intsV (l.set i x) := by
  simp [intsV, List.map_set]

set_option maxHeartbeats 1000000 in
theorem compact_ctr {B : Nat} {h : Heap} {v : V} {l : List Int} (O : SlO B h 1 v l.length (intsV l)) (hl : l.length ≤ 8000000) :
    Ctr Tryz.prog 52 [v] h fun x h' => SlO B h' 1 x (compact l).length (intsV (compact l)) ∧ Mod v.blk h h' ∧ ∀ b, x.blk b → v.blk b := by
  refine c52_ctr rfl (wpK_of ?_)
  unfold c52
  have hL := O.v.len
  by_cases h2 : l.length < 2
  · have g2 : ((l.length : Int) < 2) = True := eq_true (by omega)
    simp +contextual only [hL, g2, ↓wA, wB, wZ, repeatV, RX.evs, spl, over, ones, Ex.ends, evR, oneOf, top, ↓reduceIte, Nat.reduceEqDiff, Nat.reduceLeDiff, Nat.reduceAdd, Nat.reduceSub, Nat.reduceMul, reduceCtorEq, Int.reduceEq, Int.reduceLT, Int.reduceLE, Int.reduceNeg, Int.reduceAdd, Int.reduceSub]
    rw [compact_small h2]
    exact ⟨O, Mod.refl _ _, fun b q => trivial⟩
  have g2 : ((l.length : Int) < 2) = False := eq_false (by omega)
  simp +contextual only [hL, g2, ↓wA, wB, wZ, repeatV, RX.evs, spl, over, ones, Ex.ends, evR, oneOf, top, ↓reduceIte, Nat.reduceEqDiff, Nat.reduceLeDiff, Nat.reduceAdd, Nat.reduceSub, Nat.reduceMul, reduceCtorEq, Int.reduceEq, Int.reduceLT, Int.reduceLE, Int.reduceNeg, Int.reduceAdd, Int.reduceSub]
  refine loopK_intro (fun r h' => h' = h ∧ r 0 = v ∧ ∃ k : Nat, r 3 = .int .i64 k ∧ ∃ hk : 1 ≤ k ∧ k ≤ l.length, l.take k ++ compactF (l[k - 1]'(by omega)) (l.drop k) = compact l) (fun r h' => l.length - (r 3).toN) ?_ ?_
  · refine ⟨rfl, by simp only [↓wA, wB, wZ, repeatV, RX.evs, spl, over, ones, Ex.ends, evR, oneOf, top, ↓reduceIte, Nat.reduceEqDiff, Nat.reduceLeDiff, Nat.reduceAdd, Nat.reduceSub, Nat.reduceMul, reduceCtorEq, Int.reduceEq, Int.reduceLT, Int.reduceLE, Int.reduceNeg, Int.reduceAdd, Int.reduceSub], 1, by simp only [↓wA, wB, wZ, repeatV, RX.evs, spl, over, ones, Ex.ends, evR, oneOf, top, ↓reduceIte, Nat.reduceEqDiff, Nat.reduceLeDiff, Nat.reduceAdd, Nat.reduceSub, Nat.reduceMul, reduceCtorEq, Int.reduceEq, Int.reduceLT, Int.reduceLE, Int.reduceNeg, Int.reduceAdd, Int.reduceSub] <;> rfl, ⟨Nat.le_refl _, by omega⟩, ?_⟩
    match l, h2 with
    | x :: l, _ => rfl
  · rintro r h' ⟨rfl, r0, k, r3, ⟨hk1, hk2⟩, hc⟩
    unfold c52l2
    by_cases hlt : k < l.length
    · have g0 : ((k : Int) < (l.length : Int)) = True := eq_true (by omega)
      obtain ⟨b, o, ia, ld⟩ := ints_at O.v (k := .i64) hlt
      obtain ⟨b1, o1, ia1, ld1⟩ := ints_at O.v (k := .i64) (show k - 1 < l.length by omega)
      have wd := w_dec hk1 (by omega)
      have wi := w_inc hlt (by omega)
      rw [List.drop_eq_getElem_cons hlt, compactF] at hc
      by_cases he : l[k] = l[k - 1]
      · have ee := eq_true he
        rw [if_pos he] at hc
        obtain ⟨v2, t1, t2, t3⟩ := SlO.tail O hlt
        simp +contextual only [r0, r3, hL, g0, ia, ld, wd, ia1, ld1, ee, t1, ↓wA, wB, wZ, repeatV, RX.evs, spl, over, ones, Ex.ends, evR, oneOf, top, ↓reduceIte, Nat.reduceEqDiff, Nat.reduceLeDiff, Nat.reduceAdd, Nat.reduceSub, Nat.reduceMul, reduceCtorEq, Int.reduceEq, Int.reduceLT, Int.reduceLE, Int.reduceNeg, Int.reduceAdd, Int.reduceSub]
        refine loopK_intro (fun r h2 => Mod v.blk h' h2 ∧ r 0 = v ∧ r 4 = v2 ∧ ∃ (k1 j : Nat) (m : List Int), r 3 = .int .i64 k1 ∧ r 5 = .int .i64 j ∧ SlO B h2 1 v l.length (intsV m) ∧ m.length = l.length ∧ 1 ≤ k1 ∧ 1 ≤ j ∧ k1 + 1 ≤ k + j ∧ ∃ hj : k + j ≤ l.length, m.take k1 ++ compactF (l[k + j - 1]'(by omega)) (l.drop (k + j)) = compact l ∧ ∀ q, k + j ≤ q + 1 → m[q]? = l[q]?) (fun r h' => l.length - (r 5).toN) ?_ ?_
        · refine ⟨Mod.refl _ _, by simp only [r0, ↓wA, wB, wZ, repeatV, RX.evs, spl, over, ones, Ex.ends, evR, oneOf, top, ↓reduceIte, Nat.reduceEqDiff, Nat.reduceLeDiff, Nat.reduceAdd, Nat.reduceSub, Nat.reduceMul, reduceCtorEq, Int.reduceEq, Int.reduceLT, Int.reduceLE, Int.reduceNeg, Int.reduceAdd, Int.reduceSub], by simp only [↓wA, wB, wZ, repeatV, RX.evs, spl, over, ones, Ex.ends, evR, oneOf, top, ↓reduceIte, Nat.reduceEqDiff, Nat.reduceLeDiff, Nat.reduceAdd, Nat.reduceSub, Nat.reduceMul, reduceCtorEq, Int.reduceEq, Int.reduceLT, Int.reduceLE, Int.reduceNeg, Int.reduceAdd, Int.reduceSub], k, 1, l, by simp only [r3, ↓wA, wB, wZ, repeatV, RX.evs, spl, over, ones, Ex.ends, evR, oneOf, top, ↓reduceIte, Nat.reduceEqDiff, Nat.reduceLeDiff, Nat.reduceAdd, Nat.reduceSub, Nat.reduceMul, reduceCtorEq, Int.reduceEq, Int.reduceLT, Int.reduceLE, Int.reduceNeg, Int.reduceAdd, Int.reduceSub], by simp only [↓wA, wB, wZ, repeatV, RX.evs, spl, over, ones, Ex.ends, evR, oneOf, top, ↓reduceIte, Nat.reduceEqDiff, Nat.reduceLeDiff, Nat.reduceAdd, Nat.reduceSub, Nat.reduceMul, reduceCtorEq, Int.reduceEq, Int.reduceLT, Int.reduceLE, Int.reduceNeg, Int.reduceAdd, Int.reduceSub] <;> rfl, O, rfl, hk1, Nat.le_refl _, Nat.le_refl _, hlt, ?_, fun q _ => rfl⟩
          rw [← hc]
          congr 2
        · clear r0 r3
          rintro r h2 ⟨hm, r0, r4, k1, j, m, r3, r5, Om, hml, hk11, hj1, hkj, hj, hcm, hq⟩
          unfold c52l1
          by_cases hjl : k + j < l.length
          · have gj : ((j : Int) < ((l.length - k : Nat) : Int)) = True := eq_true (by omega)
            have Om' : SlV h2 1 v m.length (intsV m) := by rw [hml]; exact Om.v
            obtain ⟨b3, o3, ia3, ld3⟩ := ints_at Om' (k := .i64) (show k + j < m.length by omega)
            obtain ⟨b4, o4, ia4, ld4⟩ := ints_at Om' (k := .i64) (show k + (j - 1) < m.length by omega)
            obtain ⟨b5, o5, ia5, ld5⟩ := ints_at Om' (k := .i64) (show k1 < m.length by omega)
            have ha5 := at_ia Om' (show k1 < m.length by omega) ia5
            rw [← t3 j (by omega)] at ia3
            rw [← t3 (j - 1) (by omega)] at ia4
            have hv3 : m[k + j]'(by omega) = l[k + j] := by
              have := hq (k + j) (by omega)
              rw [List.getElem?_eq_getElem (by omega), List.getElem?_eq_getElem hjl] at this
              exact Option.some.inj this
            have hv4 : m[k + (j - 1)]'(by omega) = l[k + j - 1]'(by omega) := by
              have := hq (k + j - 1) (by omega)
              rw [List.getElem?_eq_getElem (by omega), List.getElem?_eq_getElem (by omega)] at this
              have e : k + (j - 1) = k + j - 1 := by omega
              simp only [e]
              exact Option.some.inj this
            rw [hv3] at ld3
            rw [hv4] at ld4
            have wdj := w_dec hj1 (by omega)
            have wij := w_inc (i := j) (n := l.length) (by omega) (by omega)
            have wik := w_inc (i := k1) (n := l.length) (by omega) (by omega)
            rw [List.drop_eq_getElem_cons hjl, compactF] at hcm
            have hidx : k + (j + 1) - 1 = k + j := by omega
            by_cases hne : l[k + j] = l[k + j - 1]
            · have en := eq_true hne
              rw [if_pos hne] at hcm
              simp +contextual only [r0, r3, r4, r5, t2, gj, ia3, ld3, wdj, ia4, ld4, en, wij, ↓wA, wB, wZ, repeatV, RX.evs, spl, over, ones, Ex.ends, evR, oneOf, top, ↓reduceIte, Nat.reduceEqDiff, Nat.reduceLeDiff, Nat.reduceAdd, Nat.reduceSub, Nat.reduceMul, reduceCtorEq, Int.reduceEq, Int.reduceLT, Int.reduceLE, Int.reduceNeg, Int.reduceAdd, Int.reduceSub]
              refine ⟨⟨hm, k1, j + 1, m, rfl, rfl, Om, hml, hk11, by omega, by omega, hjl, ?_, fun q hq' => hq q (by omega)⟩, by omega⟩
              simp only [hidx, hne]
              exact hcm
            · have en := eq_false hne
              rw [if_neg hne] at hcm
              obtain ⟨K, p1, p2, p3, p4⟩ := Om.putc ha5 (c := k1 * 1) (y := .int .i64 l[k + j]) (by rw [intsV_len]; omega) rfl rfl
              rw [Nat.mul_one, intsV_set] at p3
              have hm2 : Mod v.blk h' (h2.set b5 K) := hm.set (fun _ => p4) _
              simp +contextual only [r0, r3, r4, r5, t2, gj, ia3, ld3, wdj, ia4, ld4, en, ia5, p1, wij, wik, ↓wA, wB, wZ, repeatV, RX.evs, spl, over, ones, Ex.ends, evR, oneOf, top, ↓reduceIte, Nat.reduceEqDiff, Nat.reduceLeDiff, Nat.reduceAdd, Nat.reduceSub, Nat.reduceMul, reduceCtorEq, Int.reduceEq, Int.reduceLT, Int.reduceLE, Int.reduceNeg, Int.reduceAdd, Int.reduceSub]
              refine ⟨⟨hm2, k1 + 1, j + 1, m.set k1 l[k + j], rfl, rfl, p3, by rw [List.length_set]; exact hml, by omega, by omega, by omega, hjl, ?_, fun q hq' => ?_⟩, by omega⟩
              · simp only [hidx]
                rw [← hcm, List.take_succ_eq_append_getElem (by rw [List.length_set]; omega), List.getElem_set_self, List.take_set_of_le (Nat.le_refl _)]
                simp only [List.append_assoc, List.cons_append, List.nil_append]
                rfl
              · rw [List.getElem?_set_ne (by omega)]
                exact hq q (by omega)
          · have gj : ((j : Int) < ((l.length - k : Nat) : Int)) = False := eq_false (by omega)
            rw [List.drop_eq_nil_of_le (by omega), compactF, List.append_nil] at hcm
            obtain ⟨v3, h3, y1, y2, ⟨ws, y3⟩, y4⟩ := SlO.wipe Om (m := k1) (by omega)
            obtain ⟨v4, z1, z2, z3⟩ := y3.cut (k := .i64) (m := k1) (by omega) (by omega)
            rw [Nat.mul_one, intsV_take, List.take_append_of_le_length (by rw [intsV_len, List.length_take]; omega), intsV_take, List.take_take, Nat.min_self, hcm] at z2
            have hkl : k1 = (compact l).length := by rw [← hcm, List.length_take]; omega
            simp +contextual only [r0, r3, r4, r5, t2, gj, y1, y2, z1, k_clr, ↓wA, wB, wZ, repeatV, RX.evs, spl, over, ones, Ex.ends, evR, oneOf, top, ↓reduceIte, Nat.reduceEqDiff, Nat.reduceLeDiff, Nat.reduceAdd, Nat.reduceSub, Nat.reduceMul, reduceCtorEq, Int.reduceEq, Int.reduceLT, Int.reduceLE, Int.reduceNeg, Int.reduceAdd, Int.reduceSub]
            rw [← hkl]
            exact ⟨z2, hm.trans y4, z3⟩
      · have ee := eq_false he
        rw [if_neg he] at hc
        simp +contextual only [r0, r3, hL, g0, ia, ld, wd, ia1, ld1, ee, wi, ↓wA, wB, wZ, repeatV, RX.evs, spl, over, ones, Ex.ends, evR, oneOf, top, ↓reduceIte, Nat.reduceEqDiff, Nat.reduceLeDiff, Nat.reduceAdd, Nat.reduceSub, Nat.reduceMul, reduceCtorEq, Int.reduceEq, Int.reduceLT, Int.reduceLE, Int.reduceNeg, Int.reduceAdd, Int.reduceSub]
        refine ⟨⟨k + 1, rfl, ⟨by omega, hlt⟩, ?_⟩, by omega⟩
        rw [← hc, List.take_succ_eq_append_getElem hlt]
        simp only [List.append_assoc, List.cons_append, List.nil_append, Nat.add_sub_cancel]
    · have g0 : ((k : Int) < (l.length : Int)) = False := eq_false (by omega)
      rw [List.drop_eq_nil_of_le (by omega), compactF, List.append_nil, List.take_of_length_le (by omega)] at hc
      simp +contextual only [r0, r3, hL, g0, ↓wA, wB, wZ, repeatV, RX.evs, spl, over, ones, Ex.ends, evR, oneOf, top, ↓reduceIte, Nat.reduceEqDiff, Nat.reduceLeDiff, Nat.reduceAdd, Nat.reduceSub, Nat.reduceMul, reduceCtorEq, Int.reduceEq, Int.reduceLT, Int.reduceLE, Int.reduceNeg, Int.reduceAdd, Int.reduceSub]
      rw [← hc]
      exact ⟨O, Mod.refl _ _, fun b q => trivial⟩
end Go.Proofs.YtjbiefneffiogaaGreat

namespace Go.Proofs.YtjbiefneffiogaaGreat
open Go Am
set_option linter.unusedSectionVars false
set_option linter.unusedSimpArgs false
set_option linter.unusedVariables false

def boundM (c : Co) : List Int := if may ownP c then rising (order c) else []
def freeM (c : Co) : List Int := if may ownP c then rising (free c []) else []
def sizeM (c : Co) : Int := if may ownP c then (size c : Int) else 0
def checkM (c : Co) : Int := if !may ownP c then 2 else if (order c).length ≠ (rising (order c)).length then 7 else if 0 < (rising (free c [])).length then 6 else 0

theorem may_ref {c : Co} (hw : wt c ≤ 400) : may (fun b c => ownR b c) c = may ownP c := (may_same c (few_of_fit (m := 1048576) (by omega) c (fit_of_wt c hw))).symm
theorem ok_of {c : Co} (hw : wt c ≤ 400) (h : may ownP c = true) : okC c := ok_of_may c (by rw [may_ref hw]; exact h)
theorem order_small {c : Co} (hw : wt c ≤ 400) : (order c).length ≤ 1200 := by have := order_len c; have := size_wt c; omega

/-- a slice of one's own, new since h -/
def NewS (h h' : Heap) (l : List Int) (x : V) : Prop := SlO h.next h' 1 x l.length (intsV l) ∧ Ext h h'
theorem NewS.nil (h : Heap) : NewS h h [] .nilslice := ⟨⟨rfl, rfl⟩, Ext.refl _⟩
theorem NewS.from {h h1 h' : Heap} {l : List Int} {x : V} (H : NewS h1 h' l x) (e : Ext h h1) : NewS h h' l x := ⟨H.1.mono e.next, e.trans H.2⟩

section
variable (c : Co) (vs : List V) (h : Heap) (H : CoIn h c vs) (hw : wt c ≤ 400)
include H hw
theorem mayW : Ctr Tryz.prog 44 [.agg vs] h fun x h' => x = .bool (may ownP c) ∧ Ext h h' := may_ctr (size c) c (Nat.le_refl _) (fit_of_wt c hw) vs h H
theorem rmayW : Ctr Tryz.prog 47 [.agg vs] h fun x h' => x = .bool (may ownP c) ∧ Ext h h' :=
  (rmay_ctr (size c) c (Nat.le_refl _) (fit_of_wt c hw) vs h H).mono fun x h' q => by rw [may_ref hw] at q; exact q
theorem Size_ctr : Ctr Tryz.prog 22 [.agg vs] h fun x h' => x = .int .i64 (sizeM c) ∧ Ext h h' := by
  have hsz := size_wt c
  obtain ⟨va, vt, vl, rfl, Ha, Ht, Hl⟩ := H.open
  refine c22_ctr rfl (wpK_of ?_)
  unfold c22
  have e0 : Ext h (h.new (.ofL [.int .i64 c.k, .int .i64 c.x, .int .i64 c.n, .str c.s, va, vt, vl] 0 false)) := (Ext.refl h).new _
  have cb : (h.new (.ofL [.int .i64 c.k, .int .i64 c.x, .int .i64 c.n, .str c.s, va, vt, vl] 0 false)).get (pa h.next) = .ofL [.int .i64 c.k, .int .i64 c.x, .int .i64 c.n, .str c.s, va, vt, vl] 0 false := get_new_self _
  simp +contextual only [↓wA, wB, wZ, repeatV, RX.evs, spl, over, ones, Ex.ends, evR, oneOf, top, ↓reduceIte, Nat.reduceEqDiff, Nat.reduceLeDiff, Nat.reduceAdd, Nat.reduceSub, Nat.reduceMul, reduceCtorEq, Int.reduceEq, Int.reduceLT, Int.reduceLE, Int.reduceNeg, Int.reduceAdd, Int.reduceSub]
  refine callK_intro (mayW c _ _ (H.ext e0) hw) ?_
  rintro x h1 ⟨rfl, e1⟩
  have bx : h1.get (pa h.next) = .ofL [.int .i64 c.k, .int .i64 c.x, .int .i64 c.n, .str c.s, va, vt, vl] 0 false := by rw [e1.get _ (old_lt (by rw [next_new]; omega))]; exact cb
  unfold sizeM
  cases hm : may ownP c with
  | false =>
    simp +contextual only [↓wA, wB, wZ, repeatV, RX.evs, spl, over, ones, Ex.ends, evR, oneOf, top, ↓reduceIte, Nat.reduceEqDiff, Nat.reduceLeDiff, Nat.reduceAdd, Nat.reduceSub, Nat.reduceMul, reduceCtorEq, Int.reduceEq, Int.reduceLT, Int.reduceLE, Int.reduceNeg, Int.reduceAdd, Int.reduceSub]
    exact e0.trans e1
  | true =>
    simp +contextual only [bx, ↓wA, wB, wZ, repeatV, RX.evs, spl, over, ones, Ex.ends, evR, oneOf, top, ↓reduceIte, Nat.reduceEqDiff, Nat.reduceLeDiff, Nat.reduceAdd, Nat.reduceSub, Nat.reduceMul, reduceCtorEq, Int.reduceEq, Int.reduceLT, Int.reduceLE, Int.reduceNeg, Int.reduceAdd, Int.reduceSub]
    refine callK_intro (size_ctr (size c) c (Nat.le_refl _) (by omega) _ _ (H.ext (e0.trans e1))) ?_
    rintro x h2 ⟨rfl, e2⟩
    simp +contextual only [↓wA, wB, wZ, repeatV, RX.evs, spl, over, ones, Ex.ends, evR, oneOf, top, ↓reduceIte, Nat.reduceEqDiff, Nat.reduceLeDiff, Nat.reduceAdd, Nat.reduceSub, Nat.reduceMul, reduceCtorEq, Int.reduceEq, Int.reduceLT, Int.reduceLE, Int.reduceNeg, Int.reduceAdd, Int.reduceSub]
    exact (e0.trans e1).trans e2
theorem rSize_ctr : Ctr Tryz.prog 23 [.agg vs] h fun x h' => x = .int .i64 (sizeM c) ∧ Ext h h' := by
  have hsz := size_wt c
  obtain ⟨va, vt, vl, rfl, Ha, Ht, Hl⟩ := H.open
  refine c23_ctr rfl (wpK_of ?_)
  unfold c23
  have e0 : Ext h (h.new (.ofL [.int .i64 c.k, .int .i64 c.x, .int .i64 c.n, .str c.s, va, vt, vl] 0 false)) := (Ext.refl h).new _
  have cb : (h.new (.ofL [.int .i64 c.k, .int .i64 c.x, .int .i64 c.n, .str c.s, va, vt, vl] 0 false)).get (pa h.next) = .ofL [.int .i64 c.k, .int .i64 c.x, .int .i64 c.n, .str c.s, va, vt, vl] 0 false := get_new_self _
  simp +contextual only [↓wA, wB, wZ, repeatV, RX.evs, spl, over, ones, Ex.ends, evR, oneOf, top, ↓reduceIte, Nat.reduceEqDiff, Nat.reduceLeDiff, Nat.reduceAdd, Nat.reduceSub, Nat.reduceMul, reduceCtorEq, Int.reduceEq, Int.reduceLT, Int.reduceLE, Int.reduceNeg, Int.reduceAdd, Int.reduceSub]
  refine callK_intro (rmayW c _ _ (H.ext e0) hw) ?_
  rintro x h1 ⟨rfl, e1⟩
  have bx : h1.get (pa h.next) = .ofL [.int .i64 c.k, .int .i64 c.x, .int .i64 c.n, .str c.s, va, vt, vl] 0 false := by rw [e1.get _ (old_lt (by rw [next_new]; omega))]; exact cb
  unfold sizeM
  cases hm : may ownP c with
  | false =>
    simp +contextual only [↓wA, wB, wZ, repeatV, RX.evs, spl, over, ones, Ex.ends, evR, oneOf, top, ↓reduceIte, Nat.reduceEqDiff, Nat.reduceLeDiff, Nat.reduceAdd, Nat.reduceSub, Nat.reduceMul, reduceCtorEq, Int.reduceEq, Int.reduceLT, Int.reduceLE, Int.reduceNeg, Int.reduceAdd, Int.reduceSub]
    exact e0.trans e1
  | true =>
    simp +contextual only [bx, ↓wA, wB, wZ, repeatV, RX.evs, spl, over, ones, Ex.ends, evR, oneOf, top, ↓reduceIte, Nat.reduceEqDiff, Nat.reduceLeDiff, Nat.reduceAdd, Nat.reduceSub, Nat.reduceMul, reduceCtorEq, Int.reduceEq, Int.reduceLT, Int.reduceLE, Int.reduceNeg, Int.reduceAdd, Int.reduceSub]
    refine callK_intro (rsize_ctr (size c) c (Nat.le_refl _) (by omega) _ _ (H.ext (e0.trans e1))) ?_
    rintro x h2 ⟨rfl, e2⟩
    simp +contextual only [↓wA, wB, wZ, repeatV, RX.evs, spl, over, ones, Ex.ends, evR, oneOf, top, ↓reduceIte, Nat.reduceEqDiff, Nat.reduceLeDiff, Nat.reduceAdd, Nat.reduceSub, Nat.reduceMul, reduceCtorEq, Int.reduceEq, Int.reduceLT, Int.reduceLE, Int.reduceNeg, Int.reduceAdd, Int.reduceSub]
    exact (e0.trans e1).trans e2
theorem Bound_ctr : Ctr Tryz.prog 25 [.agg vs] h fun x h' => NewS h h' (boundM c) x := by
  have hol := order_small hw
  obtain ⟨va, vt, vl, rfl, Ha, Ht, Hl⟩ := H.open
  refine c25_ctr rfl (wpK_of ?_)
  unfold c25
  have e0 : Ext h (h.new (.ofL [.int .i64 c.k, .int .i64 c.x, .int .i64 c.n, .str c.s, va, vt, vl] 0 false)) := (Ext.refl h).new _
  have cb : (h.new (.ofL [.int .i64 c.k, .int .i64 c.x, .int .i64 c.n, .str c.s, va, vt, vl] 0 false)).get (pa h.next) = .ofL [.int .i64 c.k, .int .i64 c.x, .int .i64 c.n, .str c.s, va, vt, vl] 0 false := get_new_self _
  simp +contextual only [↓wA, wB, wZ, repeatV, RX.evs, spl, over, ones, Ex.ends, evR, oneOf, top, ↓reduceIte, Nat.reduceEqDiff, Nat.reduceLeDiff, Nat.reduceAdd, Nat.reduceSub, Nat.reduceMul, reduceCtorEq, Int.reduceEq, Int.reduceLT, Int.reduceLE, Int.reduceNeg, Int.reduceAdd, Int.reduceSub]
  refine callK_intro (mayW c _ _ (H.ext e0) hw) ?_
  rintro x h1 ⟨rfl, e1⟩
  have bx : h1.get (pa h.next) = .ofL [.int .i64 c.k, .int .i64 c.x, .int .i64 c.n, .str c.s, va, vt, vl] 0 false := by rw [e1.get _ (old_lt (by rw [next_new]; omega))]; exact cb
  unfold boundM
  cases hm : may ownP c with
  | false =>
    simp +contextual only [↓wA, wB, wZ, repeatV, RX.evs, spl, over, ones, Ex.ends, evR, oneOf, top, ↓reduceIte, Nat.reduceEqDiff, Nat.reduceLeDiff, Nat.reduceAdd, Nat.reduceSub, Nat.reduceMul, reduceCtorEq, Int.reduceEq, Int.reduceLT, Int.reduceLE, Int.reduceNeg, Int.reduceAdd, Int.reduceSub]
    exact (NewS.nil h1).from (e0.trans e1)
  | true =>
    simp +contextual only [bx, ↓wA, wB, wZ, repeatV, RX.evs, spl, over, ones, Ex.ends, evR, oneOf, top, ↓reduceIte, Nat.reduceEqDiff, Nat.reduceLeDiff, Nat.reduceAdd, Nat.reduceSub, Nat.reduceMul, reduceCtorEq, Int.reduceEq, Int.reduceLT, Int.reduceLE, Int.reduceNeg, Int.reduceAdd, Int.reduceSub]
    refine callK_intro (Order_ctr c _ _ (H.ext (e0.trans e1)) (fit_of_wt c hw) (ok_of hw hm) (by omega)) ?_
    rintro x h2 ⟨O2, e2⟩
    simp +contextual only [↓wA, wB, wZ, repeatV, RX.evs, spl, over, ones, Ex.ends, evR, oneOf, top, ↓reduceIte, Nat.reduceEqDiff, Nat.reduceLeDiff, Nat.reduceAdd, Nat.reduceSub, Nat.reduceMul, reduceCtorEq, Int.reduceEq, Int.reduceLT, Int.reduceLE, Int.reduceNeg, Int.reduceAdd, Int.reduceSub]
    refine callK_intro (sort_ctr O2 (by omega)) ?_
    rintro y h3 ⟨rfl, O3, m3⟩
    have hsl : (sortZ (order c)).length = (order c).length := (sortZ_perm _).length_eq
    rw [← hsl] at O3
    simp +contextual only [↓wA, wB, wZ, repeatV, RX.evs, spl, over, ones, Ex.ends, evR, oneOf, top, ↓reduceIte, Nat.reduceEqDiff, Nat.reduceLeDiff, Nat.reduceAdd, Nat.reduceSub, Nat.reduceMul, reduceCtorEq, Int.reduceEq, Int.reduceLT, Int.reduceLE, Int.reduceNeg, Int.reduceAdd, Int.reduceSub]
    refine callK_intro (compact_ctr O3 (by omega)) ?_
    rintro z h4 ⟨O4, m4, b4⟩
    rw [compact_sorted (sortZ_sorted (order c)) (sortZ_perm _)] at O4
    simp +contextual only [↓wA, wB, wZ, repeatV, RX.evs, spl, over, ones, Ex.ends, evR, oneOf, top, ↓reduceIte, Nat.reduceEqDiff, Nat.reduceLeDiff, Nat.reduceAdd, Nat.reduceSub, Nat.reduceMul, reduceCtorEq, Int.reduceEq, Int.reduceLT, Int.reduceLE, Int.reduceNeg, Int.reduceAdd, Int.reduceSub]
    have e4 : Ext h1 h4 := e2.mod_new (m3.trans m4) (fun b q => O2.base q)
    exact NewS.from ⟨O4, e4⟩ (e0.trans e1)
theorem rBound_ctr : Ctr Tryz.prog 26 [.agg vs] h fun x h' => NewS h h' (boundM c) x := by
  have hol := order_small hw
  obtain ⟨va, vt, vl, rfl, Ha, Ht, Hl⟩ := H.open
  refine c26_ctr rfl (wpK_of ?_)
  unfold c26
  have e0 : Ext h (h.new (.ofL [.int .i64 c.k, .int .i64 c.x, .int .i64 c.n, .str c.s, va, vt, vl] 0 false)) := (Ext.refl h).new _
  have cb : (h.new (.ofL [.int .i64 c.k, .int .i64 c.x, .int .i64 c.n, .str c.s, va, vt, vl] 0 false)).get (pa h.next) = .ofL [.int .i64 c.k, .int .i64 c.x, .int .i64 c.n, .str c.s, va, vt, vl] 0 false := get_new_self _
  simp +contextual only [↓wA, wB, wZ, repeatV, RX.evs, spl, over, ones, Ex.ends, evR, oneOf, top, ↓reduceIte, Nat.reduceEqDiff, Nat.reduceLeDiff, Nat.reduceAdd, Nat.reduceSub, Nat.reduceMul, reduceCtorEq, Int.reduceEq, Int.reduceLT, Int.reduceLE, Int.reduceNeg, Int.reduceAdd, Int.reduceSub]
  refine callK_intro (rmayW c _ _ (H.ext e0) hw) ?_
  rintro x h1 ⟨rfl, e1⟩
  have bx : h1.get (pa h.next) = .ofL [.int .i64 c.k, .int .i64 c.x, .int .i64 c.n, .str c.s, va, vt, vl] 0 false := by rw [e1.get _ (old_lt (by rw [next_new]; omega))]; exact cb
  unfold boundM
  cases hm : may ownP c with
  | false =>
    simp +contextual only [↓wA, wB, wZ, repeatV, RX.evs, spl, over, ones, Ex.ends, evR, oneOf, top, ↓reduceIte, Nat.reduceEqDiff, Nat.reduceLeDiff, Nat.reduceAdd, Nat.reduceSub, Nat.reduceMul, reduceCtorEq, Int.reduceEq, Int.reduceLT, Int.reduceLE, Int.reduceNeg, Int.reduceAdd, Int.reduceSub]
    exact (NewS.nil h1).from (e0.trans e1)
  | true =>
    simp +contextual only [bx, ↓wA, wB, wZ, repeatV, RX.evs, spl, over, ones, Ex.ends, evR, oneOf, top, ↓reduceIte, Nat.reduceEqDiff, Nat.reduceLeDiff, Nat.reduceAdd, Nat.reduceSub, Nat.reduceMul, reduceCtorEq, Int.reduceEq, Int.reduceLT, Int.reduceLE, Int.reduceNeg, Int.reduceAdd, Int.reduceSub]
    refine callK_intro (rorder_ctr (size c) c (Nat.le_refl _) (fit_of_wt c hw) (ok_of hw hm) _ h1 (H.ext (e0.trans e1)) h1 [] .nilslice (Ext.refl _) ⟨rfl, rfl⟩ (by simp; omega)) ?_
    rintro x h2 G2
    have O2 := G2.own
    rw [List.nil_append] at O2
    simp +contextual only [↓wA, wB, wZ, repeatV, RX.evs, spl, over, ones, Ex.ends, evR, oneOf, top, ↓reduceIte, Nat.reduceEqDiff, Nat.reduceLeDiff, Nat.reduceAdd, Nat.reduceSub, Nat.reduceMul, reduceCtorEq, Int.reduceEq, Int.reduceLT, Int.reduceLE, Int.reduceNeg, Int.reduceAdd, Int.reduceSub]
    refine callK_intro (rising_ctr (order c) x h2 O2.v (by omega)) ?_
    rintro z h4 ⟨O4, e4⟩
    simp +contextual only [↓wA, wB, wZ, repeatV, RX.evs, spl, over, ones, Ex.ends, evR, oneOf, top, ↓reduceIte, Nat.reduceEqDiff, Nat.reduceLeDiff, Nat.reduceAdd, Nat.reduceSub, Nat.reduceMul, reduceCtorEq, Int.reduceEq, Int.reduceLT, Int.reduceLE, Int.reduceNeg, Int.reduceAdd, Int.reduceSub]
    exact NewS.from ⟨O4, e4⟩ ((e0.trans e1).trans G2.ext)
theorem Free_ctr : Ctr Tryz.prog 27 [.agg vs] h fun x h' => NewS h h' (freeM c) x := by
  obtain ⟨va, vt, vl, rfl, Ha, Ht, Hl⟩ := H.open
  refine c27_ctr rfl (wpK_of ?_)
  unfold c27
  have e0 : Ext h (h.new (.ofL [.int .i64 c.k, .int .i64 c.x, .int .i64 c.n, .str c.s, va, vt, vl] 0 false)) := (Ext.refl h).new _
  have cb : (h.new (.ofL [.int .i64 c.k, .int .i64 c.x, .int .i64 c.n, .str c.s, va, vt, vl] 0 false)).get (pa h.next) = .ofL [.int .i64 c.k, .int .i64 c.x, .int .i64 c.n, .str c.s, va, vt, vl] 0 false := get_new_self _
  simp +contextual only [↓wA, wB, wZ, repeatV, RX.evs, spl, over, ones, Ex.ends, evR, oneOf, top, ↓reduceIte, Nat.reduceEqDiff, Nat.reduceLeDiff, Nat.reduceAdd, Nat.reduceSub, Nat.reduceMul, reduceCtorEq, Int.reduceEq, Int.reduceLT, Int.reduceLE, Int.reduceNeg, Int.reduceAdd, Int.reduceSub]
  refine callK_intro (mayW c _ _ (H.ext e0) hw) ?_
  rintro x h1 ⟨rfl, e1⟩
  have bx : h1.get (pa h.next) = .ofL [.int .i64 c.k, .int .i64 c.x, .int .i64 c.n, .str c.s, va, vt, vl] 0 false := by rw [e1.get _ (old_lt (by rw [next_new]; omega))]; exact cb
  unfold freeM
  cases hm : may ownP c with
  | false =>
    simp +contextual only [↓wA, wB, wZ, repeatV, RX.evs, spl, over, ones, Ex.ends, evR, oneOf, top, ↓reduceIte, Nat.reduceEqDiff, Nat.reduceLeDiff, Nat.reduceAdd, Nat.reduceSub, Nat.reduceMul, reduceCtorEq, Int.reduceEq, Int.reduceLT, Int.reduceLE, Int.reduceNeg, Int.reduceAdd, Int.reduceSub]
    exact (NewS.nil h1).from (e0.trans e1)
  | true =>
    simp +contextual only [bx, ↓wA, wB, wZ, repeatV, RX.evs, spl, over, ones, Ex.ends, evR, oneOf, top, ↓reduceIte, Nat.reduceEqDiff, Nat.reduceLeDiff, Nat.reduceAdd, Nat.reduceSub, Nat.reduceMul, reduceCtorEq, Int.reduceEq, Int.reduceLT, Int.reduceLE, Int.reduceNeg, Int.reduceAdd, Int.reduceSub]
    refine callK_intro (Unbound_ctr c _ _ (H.ext (e0.trans e1)) hw hm (ok_of hw hm)) ?_
    rintro x h2 ⟨O2, e2⟩
    simp +contextual only [↓wA, wB, wZ, repeatV, RX.evs, spl, over, ones, Ex.ends, evR, oneOf, top, ↓reduceIte, Nat.reduceEqDiff, Nat.reduceLeDiff, Nat.reduceAdd, Nat.reduceSub, Nat.reduceMul, reduceCtorEq, Int.reduceEq, Int.reduceLT, Int.reduceLE, Int.reduceNeg, Int.reduceAdd, Int.reduceSub]
    exact NewS.from ⟨O2, e2⟩ (e0.trans e1)
theorem rFree_ctr : Ctr Tryz.prog 28 [.agg vs] h fun x h' => NewS h h' (freeM c) x := by
  have hol := order_small hw
  have hfl := free_len c []
  obtain ⟨va, vt, vl, rfl, Ha, Ht, Hl⟩ := H.open
  refine c28_ctr rfl (wpK_of ?_)
  unfold c28
  have e0 : Ext h (h.new (.ofL [.int .i64 c.k, .int .i64 c.x, .int .i64 c.n, .str c.s, va, vt, vl] 0 false)) := (Ext.refl h).new _
  have cb : (h.new (.ofL [.int .i64 c.k, .int .i64 c.x, .int .i64 c.n, .str c.s, va, vt, vl] 0 false)).get (pa h.next) = .ofL [.int .i64 c.k, .int .i64 c.x, .int .i64 c.n, .str c.s, va, vt, vl] 0 false := get_new_self _
  simp +contextual only [↓wA, wB, wZ, repeatV, RX.evs, spl, over, ones, Ex.ends, evR, oneOf, top, ↓reduceIte, Nat.reduceEqDiff, Nat.reduceLeDiff, Nat.reduceAdd, Nat.reduceSub, Nat.reduceMul, reduceCtorEq, Int.reduceEq, Int.reduceLT, Int.reduceLE, Int.reduceNeg, Int.reduceAdd, Int.reduceSub]
  refine callK_intro (rmayW c _ _ (H.ext e0) hw) ?_
  rintro x h1 ⟨rfl, e1⟩
  have bx : h1.get (pa h.next) = .ofL [.int .i64 c.k, .int .i64 c.x, .int .i64 c.n, .str c.s, va, vt, vl] 0 false := by rw [e1.get _ (old_lt (by rw [next_new]; omega))]; exact cb
  unfold freeM
  cases hm : may ownP c with
  | false =>
    simp +contextual only [↓wA, wB, wZ, repeatV, RX.evs, spl, over, ones, Ex.ends, evR, oneOf, top, ↓reduceIte, Nat.reduceEqDiff, Nat.reduceLeDiff, Nat.reduceAdd, Nat.reduceSub, Nat.reduceMul, reduceCtorEq, Int.reduceEq, Int.reduceLT, Int.reduceLE, Int.reduceNeg, Int.reduceAdd, Int.reduceSub]
    exact (NewS.nil h1).from (e0.trans e1)
  | true =>
    simp +contextual only [bx, ↓wA, wB, wZ, repeatV, RX.evs, spl, over, ones, Ex.ends, evR, oneOf, top, ↓reduceIte, Nat.reduceEqDiff, Nat.reduceLeDiff, Nat.reduceAdd, Nat.reduceSub, Nat.reduceMul, reduceCtorEq, Int.reduceEq, Int.reduceLT, Int.reduceLE, Int.reduceNeg, Int.reduceAdd, Int.reduceSub]
    refine callK_intro (rfree_ctr (size c) c (Nat.le_refl _) (fit_of_wt c hw) (ok_of hw hm) _ h1 (H.ext (e0.trans e1)) h1 [] .nilslice [] .nilslice (Ext.refl _) ⟨rfl, rfl⟩ ⟨rfl, rfl⟩ (fun b q => q.elim) (by simp; omega) (by simp; omega)) ?_
    rintro x h2 G2
    have O2 := G2.own
    rw [List.nil_append] at O2
    simp +contextual only [↓wA, wB, wZ, repeatV, RX.evs, spl, over, ones, Ex.ends, evR, oneOf, top, ↓reduceIte, Nat.reduceEqDiff, Nat.reduceLeDiff, Nat.reduceAdd, Nat.reduceSub, Nat.reduceMul, reduceCtorEq, Int.reduceEq, Int.reduceLT, Int.reduceLE, Int.reduceNeg, Int.reduceAdd, Int.reduceSub]
    refine callK_intro (rising_ctr (free c []) x h2 O2.v (by omega)) ?_
    rintro z h4 ⟨O4, e4⟩
    simp +contextual only [↓wA, wB, wZ, repeatV, RX.evs, spl, over, ones, Ex.ends, evR, oneOf, top, ↓reduceIte, Nat.reduceEqDiff, Nat.reduceLeDiff, Nat.reduceAdd, Nat.reduceSub, Nat.reduceMul, reduceCtorEq, Int.reduceEq, Int.reduceLT, Int.reduceLE, Int.reduceNeg, Int.reduceAdd, Int.reduceSub]
    exact NewS.from ⟨O4, e4⟩ ((e0.trans e1).trans G2.ext)
end
end Go.Proofs.YtjbiefneffiogaaGreat

namespace Go.Proofs.YtjbiefneffiogaaGreat
open Go Am
set_option linter.unusedSectionVars false
set_option linter.unusedSimpArgs false
set_option linter.unusedVariables false

section
variable (c : Co) (vs : List V) (h : Heap) (H : CoIn h c vs) (hw : wt c ≤ 400)
include H hw
theorem Check_ctr : Ctr Tryz.prog 20 [.agg vs] h fun x h' => x = .int .i64 (checkM c) ∧ Ext h h' := by
  have hol := order_small hw
  obtain ⟨va, vt, vl, rfl, Ha, Ht, Hl⟩ := H.open
  refine c20_ctr rfl (wpK_of ?_)
  unfold c20
  have e0 : Ext h (h.new (.ofL [.int .i64 c.k, .int .i64 c.x, .int .i64 c.n, .str c.s, va, vt, vl] 0 false)) := (Ext.refl h).new _
  have cb : (h.new (.ofL [.int .i64 c.k, .int .i64 c.x, .int .i64 c.n, .str c.s, va, vt, vl] 0 false)).get (pa h.next) = (.ofL [.int .i64 c.k, .int .i64 c.x, .int .i64 c.n, .str c.s, va, vt, vl] 0 false) := get_new_self _
  simp +contextual only [↓wA, wB, wZ, repeatV, RX.evs, spl, over, ones, Ex.ends, evR, oneOf, top, ↓reduceIte, Nat.reduceEqDiff, Nat.reduceLeDiff, Nat.reduceAdd, Nat.reduceSub, Nat.reduceMul, reduceCtorEq, Int.reduceEq, Int.reduceLT, Int.reduceLE, Int.reduceNeg, Int.reduceAdd, Int.reduceSub]
  refine callK_intro (mayW c _ _ (H.ext e0) hw) ?_
  rintro x h1 ⟨rfl, e1⟩
  have E1 := e0.trans e1
  have bx : h1.get (pa h.next) = (.ofL [.int .i64 c.k, .int .i64 c.x, .int .i64 c.n, .str c.s, va, vt, vl] 0 false) := by rw [e1.get _ (old_lt (by rw [next_new]; omega))]; exact cb
  have n1 : h.next < h1.next := by have := e1.next; rw [next_new] at this; omega
  unfold checkM
  cases hm : may ownP c with
  | false =>
    simp +contextual only [↓wA, wB, wZ, repeatV, RX.evs, spl, over, ones, Ex.ends, evR, oneOf, top, ↓reduceIte, Nat.reduceEqDiff, Nat.reduceLeDiff, Nat.reduceAdd, Nat.reduceSub, Nat.reduceMul, reduceCtorEq, Int.reduceEq, Int.reduceLT, Int.reduceLE, Int.reduceNeg, Int.reduceAdd, Int.reduceSub]
    exact E1
  | true =>
    have hb : boundM c = rising (order c) := by rw [boundM, if_pos hm]
    have hfr : freeM c = rising (free c []) := by rw [freeM, if_pos hm]
    simp +contextual only [bx, ↓wA, wB, wZ, repeatV, RX.evs, spl, over, ones, Ex.ends, evR, oneOf, top, ↓reduceIte, Nat.reduceEqDiff, Nat.reduceLeDiff, Nat.reduceAdd, Nat.reduceSub, Nat.reduceMul, reduceCtorEq, Int.reduceEq, Int.reduceLT, Int.reduceLE, Int.reduceNeg, Int.reduceAdd, Int.reduceSub]
    refine callK_intro (Order_ctr c _ _ (H.ext E1) (fit_of_wt c hw) (ok_of hw hm) (by omega)) ?_
    rintro x h2 ⟨O2, e2⟩
    skip
    have bx2 : h2.get (pa h.next) = (.ofL [.int .i64 c.k, .int .i64 c.x, .int .i64 c.n, .str c.s, va, vt, vl] 0 false) := by rw [e2.get _ (old_lt n1)]; exact bx
    have n2 : h.next < h2.next := Nat.lt_of_lt_of_le n1 e2.next
    have l2 := O2.v.len
    simp +contextual only [bx, bx2, l2, ↓wA, wB, wZ, repeatV, RX.evs, spl, over, ones, Ex.ends, evR, oneOf, top, ↓reduceIte, Nat.reduceEqDiff, Nat.reduceLeDiff, Nat.reduceAdd, Nat.reduceSub, Nat.reduceMul, reduceCtorEq, Int.reduceEq, Int.reduceLT, Int.reduceLE, Int.reduceNeg, Int.reduceAdd, Int.reduceSub]
    refine callK_intro (Bound_ctr c _ _ (H.ext (E1.trans e2)) hw) ?_
    rintro y h3 ⟨O3, e3⟩
    rw [hb] at O3
    have bx3 : h3.get (pa h.next) = (.ofL [.int .i64 c.k, .int .i64 c.x, .int .i64 c.n, .str c.s, va, vt, vl] 0 false) := by rw [e3.get _ (old_lt n2)]; exact bx2
    have l3 := O3.v.len
    have E3 := (E1.trans e2).trans e3
    by_cases hne : (order c).length = (rising (order c)).length
    · have g1 : (((order c).length : Int) = ((rising (order c)).length : Int)) = True := eq_true (by omega)
      have g1' : ((order c).length = (rising (order c)).length) = True := eq_true hne
      simp +contextual only [bx, bx2, bx3, l2, l3, g1, ↓wA, wB, wZ, repeatV, RX.evs, spl, over, ones, Ex.ends, evR, oneOf, top, ↓reduceIte, Nat.reduceEqDiff, Nat.reduceLeDiff, Nat.reduceAdd, Nat.reduceSub, Nat.reduceMul, reduceCtorEq, Int.reduceEq, Int.reduceLT, Int.reduceLE, Int.reduceNeg, Int.reduceAdd, Int.reduceSub]
      refine callK_intro (Unbound_ctr c _ _ (H.ext E3) hw hm (ok_of hw hm)) ?_
      rintro z h4 ⟨O4, e4⟩
      skip
      have l4 := O4.v.len
      have E4 := E3.trans e4
      by_cases hf : 0 < (rising (free c [])).length
      · have g2 : ((0 : Int) < ((rising (free c [])).length : Int)) = True := eq_true (by omega)
        have g2' : (0 < (rising (free c [])).length) = True := eq_true hf
        simp +contextual only [l4, g2, g1', g2', ne_eq, ↓wA, wB, wZ, repeatV, RX.evs, spl, over, ones, Ex.ends, evR, oneOf, top, ↓reduceIte, Nat.reduceEqDiff, Nat.reduceLeDiff, Nat.reduceAdd, Nat.reduceSub, Nat.reduceMul, reduceCtorEq, Int.reduceEq, Int.reduceLT, Int.reduceLE, Int.reduceNeg, Int.reduceAdd, Int.reduceSub]
        exact E4
      · have g2 : ((0 : Int) < ((rising (free c [])).length : Int)) = False := eq_false (by omega)
        have g2' : (0 < (rising (free c [])).length) = False := eq_false hf
        simp +contextual only [l4, g2, g1', g2', ne_eq, ↓wA, wB, wZ, repeatV, RX.evs, spl, over, ones, Ex.ends, evR, oneOf, top, ↓reduceIte, Nat.reduceEqDiff, Nat.reduceLeDiff, Nat.reduceAdd, Nat.reduceSub, Nat.reduceMul, reduceCtorEq, Int.reduceEq, Int.reduceLT, Int.reduceLE, Int.reduceNeg, Int.reduceAdd, Int.reduceSub]
        exact E4
    · have g1 : (((order c).length : Int) = ((rising (order c)).length : Int)) = False := eq_false (by omega)
      have g1' : ((order c).length = (rising (order c)).length) = False := eq_false hne
      simp +contextual only [bx, bx2, bx3, l2, l3, g1, g1', ne_eq, ↓wA, wB, wZ, repeatV, RX.evs, spl, over, ones, Ex.ends, evR, oneOf, top, ↓reduceIte, Nat.reduceEqDiff, Nat.reduceLeDiff, Nat.reduceAdd, Nat.reduceSub, Nat.reduceMul, reduceCtorEq, Int.reduceEq, Int.reduceLT, Int.reduceLE, Int.reduceNeg, Int.reduceAdd, Int.reduceSub]
      exact E3
theorem rCheck_ctr : Ctr Tryz.prog 21 [.agg vs] h fun x h' => x = .int .i64 (checkM c) ∧ Ext h h' := by
  have hol := order_small hw
  obtain ⟨va, vt, vl, rfl, Ha, Ht, Hl⟩ := H.open
  refine c21_ctr rfl (wpK_of ?_)
  unfold c21
  have e0 : Ext h (h.new (.ofL [.int .i64 c.k, .int .i64 c.x, .int .i64 c.n, .str c.s, va, vt, vl] 0 false)) := (Ext.refl h).new _
  have cb : (h.new (.ofL [.int .i64 c.k, .int .i64 c.x, .int .i64 c.n, .str c.s, va, vt, vl] 0 false)).get (pa h.next) = (.ofL [.int .i64 c.k, .int .i64 c.x, .int .i64 c.n, .str c.s, va, vt, vl] 0 false) := get_new_self _
  simp +contextual only [↓wA, wB, wZ, repeatV, RX.evs, spl, over, ones, Ex.ends, evR, oneOf, top, ↓reduceIte, Nat.reduceEqDiff, Nat.reduceLeDiff, Nat.reduceAdd, Nat.reduceSub, Nat.reduceMul, reduceCtorEq, Int.reduceEq, Int.reduceLT, Int.reduceLE, Int.reduceNeg, Int.reduceAdd, Int.reduceSub]
  refine callK_intro (rmayW c _ _ (H.ext e0) hw) ?_
  rintro x h1 ⟨rfl, e1⟩
  have E1 := e0.trans e1
  have bx : h1.get (pa h.next) = (.ofL [.int .i64 c.k, .int .i64 c.x, .int .i64 c.n, .str c.s, va, vt, vl] 0 false) := by rw [e1.get _ (old_lt (by rw [next_new]; omega))]; exact cb
  have n1 : h.next < h1.next := by have := e1.next; rw [next_new] at this; omega
  unfold checkM
  cases hm : may ownP c with
  | false =>
    simp +contextual only [↓wA, wB, wZ, repeatV, RX.evs, spl, over, ones, Ex.ends, evR, oneOf, top, ↓reduceIte, Nat.reduceEqDiff, Nat.reduceLeDiff, Nat.reduceAdd, Nat.reduceSub, Nat.reduceMul, reduceCtorEq, Int.reduceEq, Int.reduceLT, Int.reduceLE, Int.reduceNeg, Int.reduceAdd, Int.reduceSub]
    exact E1
  | true =>
    have hb : boundM c = rising (order c) := by rw [boundM, if_pos hm]
    have hfr : freeM c = rising (free c []) := by rw [freeM, if_pos hm]
    simp +contextual only [bx, ↓wA, wB, wZ, repeatV, RX.evs, spl, over, ones, Ex.ends, evR, oneOf, top, ↓reduceIte, Nat.reduceEqDiff, Nat.reduceLeDiff, Nat.reduceAdd, Nat.reduceSub, Nat.reduceMul, reduceCtorEq, Int.reduceEq, Int.reduceLT, Int.reduceLE, Int.reduceNeg, Int.reduceAdd, Int.reduceSub]
    refine callK_intro (rorder_ctr (size c) c (Nat.le_refl _) (fit_of_wt c hw) (ok_of hw hm) _ h1 (H.ext E1) h1 [] .nilslice (Ext.refl _) ⟨rfl, rfl⟩ (by simp; omega)) ?_
    rintro x h2 G2
    have O2 := G2.own; rw [List.nil_append] at O2; have e2 := G2.ext
    have bx2 : h2.get (pa h.next) = (.ofL [.int .i64 c.k, .int .i64 c.x, .int .i64 c.n, .str c.s, va, vt, vl] 0 false) := by rw [e2.get _ (old_lt n1)]; exact bx
    have n2 : h.next < h2.next := Nat.lt_of_lt_of_le n1 e2.next
    have l2 := O2.v.len
    simp +contextual only [bx, bx2, l2, ↓wA, wB, wZ, repeatV, RX.evs, spl, over, ones, Ex.ends, evR, oneOf, top, ↓reduceIte, Nat.reduceEqDiff, Nat.reduceLeDiff, Nat.reduceAdd, Nat.reduceSub, Nat.reduceMul, reduceCtorEq, Int.reduceEq, Int.reduceLT, Int.reduceLE, Int.reduceNeg, Int.reduceAdd, Int.reduceSub]
    refine callK_intro (rBound_ctr c _ _ (H.ext (E1.trans e2)) hw) ?_
    rintro y h3 ⟨O3, e3⟩
    rw [hb] at O3
    have bx3 : h3.get (pa h.next) = (.ofL [.int .i64 c.k, .int .i64 c.x, .int .i64 c.n, .str c.s, va, vt, vl] 0 false) := by rw [e3.get _ (old_lt n2)]; exact bx2
    have l3 := O3.v.len
    have E3 := (E1.trans e2).trans e3
    by_cases hne : (order c).length = (rising (order c)).length
    · have g1 : (((order c).length : Int) = ((rising (order c)).length : Int)) = True := eq_true (by omega)
      have g1' : ((order c).length = (rising (order c)).length) = True := eq_true hne
      simp +contextual only [bx, bx2, bx3, l2, l3, g1, ↓wA, wB, wZ, repeatV, RX.evs, spl, over, ones, Ex.ends, evR, oneOf, top, ↓reduceIte, Nat.reduceEqDiff, Nat.reduceLeDiff, Nat.reduceAdd, Nat.reduceSub, Nat.reduceMul, reduceCtorEq, Int.reduceEq, Int.reduceLT, Int.reduceLE, Int.reduceNeg, Int.reduceAdd, Int.reduceSub]
      refine callK_intro (rFree_ctr c _ _ (H.ext E3) hw) ?_
      rintro z h4 ⟨O4, e4⟩
      rw [hfr] at O4
      have l4 := O4.v.len
      have E4 := E3.trans e4
      by_cases hf : 0 < (rising (free c [])).length
      · have g2 : ((0 : Int) < ((rising (free c [])).length : Int)) = True := eq_true (by omega)
        have g2' : (0 < (rising (free c [])).length) = True := eq_true hf
        simp +contextual only [l4, g2, g1', g2', ne_eq, ↓wA, wB, wZ, repeatV, RX.evs, spl, over, ones, Ex.ends, evR, oneOf, top, ↓reduceIte, Nat.reduceEqDiff, Nat.reduceLeDiff, Nat.reduceAdd, Nat.reduceSub, Nat.reduceMul, reduceCtorEq, Int.reduceEq, Int.reduceLT, Int.reduceLE, Int.reduceNeg, Int.reduceAdd, Int.reduceSub]
        exact E4
      · have g2 : ((0 : Int) < ((rising (free c [])).length : Int)) = False := eq_false (by omega)
        have g2' : (0 < (rising (free c [])).length) = False := eq_false hf
        simp +contextual only [l4, g2, g1', g2', ne_eq, ↓wA, wB, wZ, repeatV, RX.evs, spl, over, ones, Ex.ends, evR, oneOf, top, ↓reduceIte, Nat.reduceEqDiff, Nat.reduceLeDiff, Nat.reduceAdd, Nat.reduceSub, Nat.reduceMul, reduceCtorEq, Int.reduceEq, Int.reduceLT, Int.reduceLE, Int.reduceNeg, Int.reduceAdd, Int.reduceSub]
        exact E4
    · have g1 : (((order c).length : Int) = ((rising (order c)).length : Int)) = False := eq_false (by omega)
      have g1' : ((order c).length = (rising (order c)).length) = False := eq_false hne
      simp +contextual only [bx, bx2, bx3, l2, l3, g1, g1', ne_eq, ↓wA, wB, wZ, repeatV, RX.evs, spl, over, ones, Ex.ends, evR, oneOf, top, ↓reduceIte, Nat.reduceEqDiff, Nat.reduceLeDiff, Nat.reduceAdd, Nat.reduceSub, Nat.reduceMul, reduceCtorEq, Int.reduceEq, Int.reduceLT, Int.reduceLE, Int.reduceNeg, Int.reduceAdd, Int.reduceSub]
      exact E3
end
end Go.Proofs.YtjbiefneffiogaaGreat

namespace Go.Proofs.YtjbiefneffiogaaGreat
open Go Am
set_option linter.unusedSectionVars false
set_option linter.unusedSimpArgs false
set_option linter.unusedVariables false

theorem atom_neq0 (k n k' n' : Int) (s s' : List UInt8) : (binC Tryz.prog .neq 41).run (.agg [.int .i64 k, .int .i64 n, .str s]) (.agg [.int .i64 k', .int .i64 n', .str s']) =
   (match (bif Int.eqB k k' then (bif Int.eqB n n' then (bif beqBytes s s' then some true else some false) else some false) else some false : Option Bool) with
    | some b => some (.bool (bif true then !b else b)) | none => none) := by kernel_rfl
theorem atom_same (q : At) : (BK.other .neq 41).run Tryz.prog (.agg q.enc) (.agg q.enc) = some (.bool false) := by
  rw [show q.enc = [.int .i64 q.k, .int .i64 q.n, .str q.s] from rfl]
  rw [show (BK.other .neq 41).run Tryz.prog = (binC Tryz.prog .neq 41).run from rfl, atom_neq0]
  simp [eqB_dec, beqBytes_dec]

theorem sameInts_ctr (l : List Int) (va vb : V) (h : Heap) (Ha : SlV h 1 va l.length (intsV l)) (Hb : SlV h 1 vb l.length (intsV l)) (hl : l.length ≤ 4611686018427387904) :
    Ctr Tryz.prog 24 [va, vb] h fun x h' => x = .bool true ∧ h' = h := by
  refine c24_ctr rfl (wpK_of ?_)
  unfold c24
  have hL := Ha.len
  have hM := Hb.len
  simp +contextual only [hL, hM, ↓wA, wB, wZ, repeatV, RX.evs, spl, over, ones, Ex.ends, evR, oneOf, top, ↓reduceIte, Nat.reduceEqDiff, Nat.reduceLeDiff, Nat.reduceAdd, Nat.reduceSub, Nat.reduceMul, reduceCtorEq, Int.reduceEq, Int.reduceLT, Int.reduceLE, Int.reduceNeg, Int.reduceAdd, Int.reduceSub]
  refine loopK_intro (fun r h' => h' = h ∧ r 0 = va ∧ r 1 = vb ∧ ∃ i : Nat, r 5 = .int .i64 i ∧ i ≤ l.length) (fun r h' => l.length - (r 5).toN) ?_ ?_
  · exact ⟨rfl, by simp only [↓wA, wB, wZ, repeatV, RX.evs, spl, over, ones, Ex.ends, evR, oneOf, top, ↓reduceIte, Nat.reduceEqDiff, Nat.reduceLeDiff, Nat.reduceAdd, Nat.reduceSub, Nat.reduceMul, reduceCtorEq, Int.reduceEq, Int.reduceLT, Int.reduceLE, Int.reduceNeg, Int.reduceAdd, Int.reduceSub], by simp only [↓wA, wB, wZ, repeatV, RX.evs, spl, over, ones, Ex.ends, evR, oneOf, top, ↓reduceIte, Nat.reduceEqDiff, Nat.reduceLeDiff, Nat.reduceAdd, Nat.reduceSub, Nat.reduceMul, reduceCtorEq, Int.reduceEq, Int.reduceLT, Int.reduceLE, Int.reduceNeg, Int.reduceAdd, Int.reduceSub], 0, by simp only [↓wA, wB, wZ, repeatV, RX.evs, spl, over, ones, Ex.ends, evR, oneOf, top, ↓reduceIte, Nat.reduceEqDiff, Nat.reduceLeDiff, Nat.reduceAdd, Nat.reduceSub, Nat.reduceMul, reduceCtorEq, Int.reduceEq, Int.reduceLT, Int.reduceLE, Int.reduceNeg, Int.reduceAdd, Int.reduceSub] <;> rfl, by omega⟩
  · rintro r h' ⟨rfl, r0, r1, i, r5, hi⟩
    unfold c24l1
    by_cases hlt : i < l.length
    · have g0 : ((i : Int) < (l.length : Int)) = True := eq_true (by omega)
      obtain ⟨b, o, ia, ld⟩ := ints_at Ha (k := .i64) hlt
      obtain ⟨b', o', ia', ld1⟩ := ints_at Hb (k := .i64) hlt
      have w := w_inc hlt hl
      simp +contextual only [r0, r1, r5, hL, g0, ia, ld, ia', ld1, w, ↓wA, wB, wZ, repeatV, RX.evs, spl, over, ones, Ex.ends, evR, oneOf, top, ↓reduceIte, Nat.reduceEqDiff, Nat.reduceLeDiff, Nat.reduceAdd, Nat.reduceSub, Nat.reduceMul, reduceCtorEq, Int.reduceEq, Int.reduceLT, Int.reduceLE, Int.reduceNeg, Int.reduceAdd, Int.reduceSub]
      exact ⟨⟨i + 1, rfl, hlt⟩, by omega⟩
    · have g0 : ((i : Int) < (l.length : Int)) = False := eq_false (by omega)
      simp +contextual only [r0, r1, r5, hL, g0, ↓wA, wB, wZ, repeatV, RX.evs, spl, over, ones, Ex.ends, evR, oneOf, top, ↓reduceIte, Nat.reduceEqDiff, Nat.reduceLeDiff, Nat.reduceAdd, Nat.reduceSub, Nat.reduceMul, reduceCtorEq, Int.reduceEq, Int.reduceLT, Int.reduceLE, Int.reduceNeg, Int.reduceAdd, Int.reduceSub]
theorem sameAtoms_ctr (l : List At) (va vb : V) (h : Heap) (Ha : SlV h 3 va l.length (atsV l)) (Hb : SlV h 3 vb l.length (atsV l)) (hl : l.length ≤ 4611686018427387904) :
    Ctr Tryz.prog 42 [va, vb] h fun x h' => x = .bool true ∧ h' = h := by
  refine c42_ctr rfl (wpK_of ?_)
  unfold c42
  have hL := Ha.len
  have hM := Hb.len
  simp +contextual only [hL, hM, ↓wA, wB, wZ, repeatV, RX.evs, spl, over, ones, Ex.ends, evR, oneOf, top, ↓reduceIte, Nat.reduceEqDiff, Nat.reduceLeDiff, Nat.reduceAdd, Nat.reduceSub, Nat.reduceMul, reduceCtorEq, Int.reduceEq, Int.reduceLT, Int.reduceLE, Int.reduceNeg, Int.reduceAdd, Int.reduceSub]
  refine loopK_intro (fun r h' => h' = h ∧ r 0 = va ∧ r 1 = vb ∧ ∃ i : Nat, r 5 = .int .i64 i ∧ i ≤ l.length) (fun r h' => l.length - (r 5).toN) ?_ ?_
  · exact ⟨rfl, by simp only [↓wA, wB, wZ, repeatV, RX.evs, spl, over, ones, Ex.ends, evR, oneOf, top, ↓reduceIte, Nat.reduceEqDiff, Nat.reduceLeDiff, Nat.reduceAdd, Nat.reduceSub, Nat.reduceMul, reduceCtorEq, Int.reduceEq, Int.reduceLT, Int.reduceLE, Int.reduceNeg, Int.reduceAdd, Int.reduceSub], by simp only [↓wA, wB, wZ, repeatV, RX.evs, spl, over, ones, Ex.ends, evR, oneOf, top, ↓reduceIte, Nat.reduceEqDiff, Nat.reduceLeDiff, Nat.reduceAdd, Nat.reduceSub, Nat.reduceMul, reduceCtorEq, Int.reduceEq, Int.reduceLT, Int.reduceLE, Int.reduceNeg, Int.reduceAdd, Int.reduceSub], 0, by simp only [↓wA, wB, wZ, repeatV, RX.evs, spl, over, ones, Ex.ends, evR, oneOf, top, ↓reduceIte, Nat.reduceEqDiff, Nat.reduceLeDiff, Nat.reduceAdd, Nat.reduceSub, Nat.reduceMul, reduceCtorEq, Int.reduceEq, Int.reduceLT, Int.reduceLE, Int.reduceNeg, Int.reduceAdd, Int.reduceSub] <;> rfl, by omega⟩
  · rintro r h' ⟨rfl, r0, r1, i, r5, hi⟩
    unfold c42l1
    by_cases hlt : i < l.length
    · have g0 : ((i : Int) < (l.length : Int)) = True := eq_true (by omega)
      obtain ⟨b, o, ia, ld, _⟩ := ats_at Ha (k := .i64) hlt
      obtain ⟨b', o', ia', ld1, _⟩ := ats_at Hb (k := .i64) hlt
      have w := w_inc hlt hl
      simp +contextual only [r0, r1, r5, hL, g0, ia, ld, ia', ld1, w, atom_same, ↓wA, wB, wZ, repeatV, RX.evs, spl, over, ones, Ex.ends, evR, oneOf, top, ↓reduceIte, Nat.reduceEqDiff, Nat.reduceLeDiff, Nat.reduceAdd, Nat.reduceSub, Nat.reduceMul, reduceCtorEq, Int.reduceEq, Int.reduceLT, Int.reduceLE, Int.reduceNeg, Int.reduceAdd, Int.reduceSub]
      exact ⟨⟨i + 1, rfl, hlt⟩, by omega⟩
    · have g0 : ((i : Int) < (l.length : Int)) = False := eq_false (by omega)
      simp +contextual only [r0, r1, r5, hL, g0, ↓wA, wB, wZ, repeatV, RX.evs, spl, over, ones, Ex.ends, evR, oneOf, top, ↓reduceIte, Nat.reduceEqDiff, Nat.reduceLeDiff, Nat.reduceAdd, Nat.reduceSub, Nat.reduceMul, reduceCtorEq, Int.reduceEq, Int.reduceLT, Int.reduceLE, Int.reduceNeg, Int.reduceAdd, Int.reduceSub]

theorem same_ctr : ∀ (N : Nat) (c : Co), size c ≤ N → fit 1048576 c → ∀ (vs us : List V) (h : Heap), CoIn h c vs → CoIn h c us → Ctr Tryz.prog 16 [.agg vs, .agg us] h fun x h' => x = .bool true ∧ Ext h h'
  | 0, c, hs, _, _, _, _, _, _ => by have := size_pos c; omega
  | N + 1, c, hs, hf, vs, us, h, H, J => by
    obtain ⟨f1, f2, f3, f4, f5⟩ := hf.kids
    have hsl := size_l c
    obtain ⟨va, vt, vl, rfl, Ha, Ht, Hl⟩ := H.open
    obtain ⟨ua, ut, ul, rfl, Ja, Jt, Jl⟩ := J.open
    -- the parts
    have kids : ∀ (h' : Heap), Ext h h' → Ctr Tryz.prog 43 [vl, ul] h' fun x h2 => x = .bool true ∧ Ext h' h2 := by
      intro g hg
      refine c43_ctr rfl (wpK_of ?_)
      unfold c43
      have hL := (Hl.ext hg).len
      have hM := (Jl.ext hg).len
      simp +contextual only [hL, hM, ↓wA, wB, wZ, repeatV, RX.evs, spl, over, ones, Ex.ends, evR, oneOf, top, ↓reduceIte, Nat.reduceEqDiff, Nat.reduceLeDiff, Nat.reduceAdd, Nat.reduceSub, Nat.reduceMul, reduceCtorEq, Int.reduceEq, Int.reduceLT, Int.reduceLE, Int.reduceNeg, Int.reduceAdd, Int.reduceSub]
      refine loopK_intro (fun r h' => Ext g h' ∧ r 0 = vl ∧ r 1 = ul ∧ ∃ i : Nat, r 5 = .int .i64 i ∧ i ≤ c.l.length) (fun r h' => c.l.length - (r 5).toN) ?_ ?_
      · exact ⟨Ext.refl _, by simp only [↓wA, wB, wZ, repeatV, RX.evs, spl, over, ones, Ex.ends, evR, oneOf, top, ↓reduceIte, Nat.reduceEqDiff, Nat.reduceLeDiff, Nat.reduceAdd, Nat.reduceSub, Nat.reduceMul, reduceCtorEq, Int.reduceEq, Int.reduceLT, Int.reduceLE, Int.reduceNeg, Int.reduceAdd, Int.reduceSub], by simp only [↓wA, wB, wZ, repeatV, RX.evs, spl, over, ones, Ex.ends, evR, oneOf, top, ↓reduceIte, Nat.reduceEqDiff, Nat.reduceLeDiff, Nat.reduceAdd, Nat.reduceSub, Nat.reduceMul, reduceCtorEq, Int.reduceEq, Int.reduceLT, Int.reduceLE, Int.reduceNeg, Int.reduceAdd, Int.reduceSub], 0, by simp only [↓wA, wB, wZ, repeatV, RX.evs, spl, over, ones, Ex.ends, evR, oneOf, top, ↓reduceIte, Nat.reduceEqDiff, Nat.reduceLeDiff, Nat.reduceAdd, Nat.reduceSub, Nat.reduceMul, reduceCtorEq, Int.reduceEq, Int.reduceLT, Int.reduceLE, Int.reduceNeg, Int.reduceAdd, Int.reduceSub] <;> rfl, by omega⟩
      · rintro r h' ⟨hx, r0, r1, i, r5, hi⟩
        unfold c43l1
        by_cases hlt : i < c.l.length
        · have g0 : ((i : Int) < (c.l.length : Int)) = True := eq_true (by omega)
          obtain ⟨b, o, u, ia, hu, lds⟩ := Hl.atx (k := .i64) hlt
          obtain ⟨b', o', u', ia', hu', lds'⟩ := Jl.atx (k := .i64) hlt
          have ld := fun g2 e => (lds g2 e).1
          have ld' := fun g2 e => (lds' g2 e).1
          have hgx := hg.trans hx
          have w := w_inc hlt (by omega)
          have hfi : c.l[i]? = some c.l[i] := List.getElem?_eq_getElem hlt
          have hsz := size_idx hfi
          simp +contextual only [r0, r1, r5, hL, g0, ia, ia', ld h' hgx, ld' h' hgx, ↓wA, wB, wZ, repeatV, RX.evs, spl, over, ones, Ex.ends, evR, oneOf, top, ↓reduceIte, Nat.reduceEqDiff, Nat.reduceLeDiff, Nat.reduceAdd, Nat.reduceSub, Nat.reduceMul, reduceCtorEq, Int.reduceEq, Int.reduceLT, Int.reduceLE, Int.reduceNeg, Int.reduceAdd, Int.reduceSub]
          refine callK_intro (same_ctr N c.l[i] (by omega) (fits_at f5 hfi) u u' h' (hu.ext hgx) (hu'.ext hgx)) ?_
          rintro x g2 ⟨rfl, e2⟩
          simp +contextual only [r0, r1, r5, w, ia, ia', ld h' hgx, ld' h' hgx, ld g2 (hgx.trans e2), ld' g2 (hgx.trans e2), ↓wA, wB, wZ, repeatV, RX.evs, spl, over, ones, Ex.ends, evR, oneOf, top, ↓reduceIte, Nat.reduceEqDiff, Nat.reduceLeDiff, Nat.reduceAdd, Nat.reduceSub, Nat.reduceMul, reduceCtorEq, Int.reduceEq, Int.reduceLT, Int.reduceLE, Int.reduceNeg, Int.reduceAdd, Int.reduceSub]
          exact ⟨⟨hx.trans e2, i + 1, rfl, hlt⟩, by omega⟩
        · have g0 : ((i : Int) < (c.l.length : Int)) = False := eq_false (by omega)
          simp +contextual only [r0, r1, r5, hL, g0, ↓wA, wB, wZ, repeatV, RX.evs, spl, over, ones, Ex.ends, evR, oneOf, top, ↓reduceIte, Nat.reduceEqDiff, Nat.reduceLeDiff, Nat.reduceAdd, Nat.reduceSub, Nat.reduceMul, reduceCtorEq, Int.reduceEq, Int.reduceLT, Int.reduceLE, Int.reduceNeg, Int.reduceAdd, Int.reduceSub]
          exact hx
    refine c16_ctr rfl (wpK_of ?_)
    unfold c16
    have e0 : Ext h ((h.new (.ofL [.int .i64 c.k, .int .i64 c.x, .int .i64 c.n, .str c.s, va, vt, vl] 0 false)).new (.ofL [.int .i64 c.k, .int .i64 c.x, .int .i64 c.n, .str c.s, ua, ut, ul] 0 false)) := ((Ext.refl h).new _).new _
    have g1 : ((h.new (.ofL [.int .i64 c.k, .int .i64 c.x, .int .i64 c.n, .str c.s, va, vt, vl] 0 false)).new (.ofL [.int .i64 c.k, .int .i64 c.x, .int .i64 c.n, .str c.s, ua, ut, ul] 0 false)).get (pa h.next) = .ofL [.int .i64 c.k, .int .i64 c.x, .int .i64 c.n, .str c.s, va, vt, vl] 0 false := by
      rw [get_new, if_neg (by rw [pa_eq, next_new]; omega), get_new_self]
    have g2 : ((h.new (.ofL [.int .i64 c.k, .int .i64 c.x, .int .i64 c.n, .str c.s, va, vt, vl] 0 false)).new (.ofL [.int .i64 c.k, .int .i64 c.x, .int .i64 c.n, .str c.s, ua, ut, ul] 0 false)).get (pa (h.next + 1)) = .ofL [.int .i64 c.k, .int .i64 c.x, .int .i64 c.n, .str c.s, ua, ut, ul] 0 false := by
      rw [get_new, if_pos (by rw [next_new])]
    have hn : ((h.new (.ofL [.int .i64 c.k, .int .i64 c.x, .int .i64 c.n, .str c.s, va, vt, vl] 0 false)).new (.ofL [.int .i64 c.k, .int .i64 c.x, .int .i64 c.n, .str c.s, ua, ut, ul] 0 false)).next = h.next + 2 := by rw [next_new, next_new]
    simp +contextual only [↓wA, wB, wZ, repeatV, RX.evs, spl, over, ones, Ex.ends, evR, oneOf, top, ↓reduceIte, Nat.reduceEqDiff, Nat.reduceLeDiff, Nat.reduceAdd, Nat.reduceSub, Nat.reduceMul, reduceCtorEq, Int.reduceEq, Int.reduceLT, Int.reduceLE, Int.reduceNeg, Int.reduceAdd, Int.reduceSub]
    generalize ((h.new (.ofL [.int .i64 c.k, .int .i64 c.x, .int .i64 c.n, .str c.s, va, vt, vl] 0 false)).new (.ofL [.int .i64 c.k, .int .i64 c.x, .int .i64 c.n, .str c.s, ua, ut, ul] 0 false)) = H0 at *
    refine callK_intro (sameAtoms_ctr c.a va ua H0 (Ha.ext e0) (Ja.ext e0) (by omega)) ?_
    rintro x h1 ⟨rfl, rfl⟩
    simp +contextual only [g1, g2, ↓wA, wB, wZ, repeatV, RX.evs, spl, over, ones, Ex.ends, evR, oneOf, top, ↓reduceIte, Nat.reduceEqDiff, Nat.reduceLeDiff, Nat.reduceAdd, Nat.reduceSub, Nat.reduceMul, reduceCtorEq, Int.reduceEq, Int.reduceLT, Int.reduceLE, Int.reduceNeg, Int.reduceAdd, Int.reduceSub]
    refine callK_intro (sameInts_ctr c.t vt ut h1 (Ht.ext e0) (Jt.ext e0) (by omega)) ?_
    rintro x h2 ⟨rfl, rfl⟩
    simp +contextual only [g1, g2, ↓wA, wB, wZ, repeatV, RX.evs, spl, over, ones, Ex.ends, evR, oneOf, top, ↓reduceIte, Nat.reduceEqDiff, Nat.reduceLeDiff, Nat.reduceAdd, Nat.reduceSub, Nat.reduceMul, reduceCtorEq, Int.reduceEq, Int.reduceLT, Int.reduceLE, Int.reduceNeg, Int.reduceAdd, Int.reduceSub]
    refine callK_intro (kids h2 e0) ?_
    rintro x h3 ⟨rfl, e3⟩
    simp +contextual only [↓wA, wB, wZ, repeatV, RX.evs, spl, over, ones, Ex.ends, evR, oneOf, top, ↓reduceIte, Nat.reduceEqDiff, Nat.reduceLeDiff, Nat.reduceAdd, Nat.reduceSub, Nat.reduceMul, reduceCtorEq, Int.reduceEq, Int.reduceLT, Int.reduceLE, Int.reduceNeg, Int.reduceAdd, Int.reduceSub]
    exact e0.trans e3
end Go.Proofs.YtjbiefneffiogaaGreat

namespace Go.Proofs.YtjbiefneffiogaaGreat
open Go Am
set_option linter.unusedSectionVars false
set_option linter.unusedSimpArgs false
set_option linter.unusedVariables false

theorem quo_100 {P : Program} {n : Nat} (h : n ≤ 4611686018427387904) : (BK.int .quo).run P (.int .i64 (n : Int)) (.int .i64 100) = some (.int .i64 ((n / 100 : Nat) : Int)) := by
  simp only [BK.run, intC, intD, V.onInt]
  rw [show (eqKind .i64 .i64 && !Int.eqB 100 0) = true from rfl, cond_true]
  rw [show (n : Int).tdiv 100 = ((n / 100 : Nat) : Int) from by rw [Int.tdiv_eq_ediv_of_nonneg (by omega)]; rfl, wrap_i64 (by omega) (by omega)]
theorem atW_le {m : Nat} : ∀ (a : List At), (∀ q ∈ a, q.s.length ≤ m) → atW a ≤ a.length * (m / 100)
  | [], _ => by simp [atW]
  | q :: a, h => by
    have h1 := atW_le a fun p hp => h p (by simp [hp])
    have h2 := Nat.div_le_div_right (c := 100) (h q (by simp))
    simp only [atW, List.length_cons, Nat.add_mul]
    omega
/-- what a part weighs without its parts -/
def own (c : Co) : Nat := 1 + c.a.length + c.t.length + c.s.length / 100 + atW c.a
theorem wt_own (c : Co) : wt c = own c + wts c.l := by cases c; rfl
theorem own_le {c : Co} (hf : fit 1048576 c) : own c ≤ 20000000000 := by
  obtain ⟨k, x, n, s, a, t, l⟩ := c
  obtain ⟨h1, h2, h3, h4, h5, h6⟩ := hf
  have h7 := atW_le a h5
  have h8 : a.length * (1048576 / 100) ≤ 1048576 * (1048576 / 100) := Nat.mul_le_mul_right _ h2
  simp only [own, Co.a, Co.t, Co.s]
  omega

set_option maxHeartbeats 1000000 in
theorem cores_ctr : ∀ (N : Nat) (c : Co), size c ≤ N → fit 1048576 c → ∀ (vs : List V) (h : Heap), CoIn h c vs → ∀ (m : Nat), m ≤ 1000 →
    Ctr Tryz.prog 39 [.agg vs, .int .i64 m] h fun x h' => (∃ n : Nat, x = .int .i64 n ∧ n ≤ m + 20000000000 ∧ (wt c ≤ m → n = wt c) ∧ (m < wt c → m < n)) ∧ Ext h h'
  | 0, c, hs, _, _, _, _, _, _ => by have := size_pos c; omega
  | N + 1, c, hs, hf, vs, h, H, m, hm => by
    obtain ⟨f1, f2, f3, f4, f5⟩ := hf.kids
    have hsl := size_l c
    have how := own_le hf
    have hwo := wt_own c
    have hfa : ∀ q ∈ c.a, q.s.length ≤ 1048576 := by cases c; exact hf.2.2.2.2.1
    obtain ⟨va, vt, vl, rfl, Ha, Ht, Hl⟩ := H.open
    refine c39_ctr rfl (wpK_of ?_)
    unfold c39
    have e0 : Ext h (h.new (.ofL [.int .i64 c.k, .int .i64 c.x, .int .i64 c.n, .str c.s, va, vt, vl] 0 false)) := (Ext.refl h).new _
    have cb : (h.new (.ofL [.int .i64 c.k, .int .i64 c.x, .int .i64 c.n, .str c.s, va, vt, vl] 0 false)).get (pa h.next) = .ofL [.int .i64 c.k, .int .i64 c.x, .int .i64 c.n, .str c.s, va, vt, vl] 0 false := get_new_self _
    have la := (Ha.ext e0).len
    have lt := (Ht.ext e0).len
    have ll := (Hl.ext e0).len
    have w1 : IntKind.i64.wrap (1 + (c.a.length : Int)) = ((1 + c.a.length : Nat) : Int) := by rw [wrap_i64 (by omega) (by omega)]; push_cast; rfl
    have w2 := wrap_add (a := 1 + c.a.length) (b := c.t.length) (by omega)
    have w3 := wrap_add (a := 1 + c.a.length + c.t.length) (b := c.s.length / 100) (by omega)
    have q1 := quo_100 (P := Tryz.prog) (n := c.s.length) (by omega)
    have n1 : h.next < (h.new (.ofL [.int .i64 c.k, .int .i64 c.x, .int .i64 c.n, .str c.s, va, vt, vl] 0 false)).next := by rw [next_new]; omega
    simp +contextual only [la, lt, ll, w1, w2, w3, q1, ↓wA, wB, wZ, repeatV, RX.evs, spl, over, ones, Ex.ends, evR, oneOf, top, ↓reduceIte, Nat.reduceEqDiff, Nat.reduceLeDiff, Nat.reduceAdd, Nat.reduceSub, Nat.reduceMul, reduceCtorEq, Int.reduceEq, Int.reduceLT, Int.reduceLE, Int.reduceNeg, Int.reduceAdd, Int.reduceSub]
    generalize h.new (.ofL [.int .i64 c.k, .int .i64 c.x, .int .i64 c.n, .str c.s, va, vt, vl] 0 false) = H0 at *
    refine loopK_intro (fun r h' => h' = H0 ∧ r 1 = .int .i64 m ∧ r 2 = .ptr (pa h.next) 0 ∧ ∃ (i n : Nat), r 6 = .int .i64 i ∧ i ≤ c.a.length ∧ r 5 = .int .i64 n ∧ n + atW (c.a.drop i) = own c) (fun r h' => c.a.length - (r 6).toN) ?_ ?_
    · exact ⟨rfl, by simp only [↓wA, wB, wZ, repeatV, RX.evs, spl, over, ones, Ex.ends, evR, oneOf, top, ↓reduceIte, Nat.reduceEqDiff, Nat.reduceLeDiff, Nat.reduceAdd, Nat.reduceSub, Nat.reduceMul, reduceCtorEq, Int.reduceEq, Int.reduceLT, Int.reduceLE, Int.reduceNeg, Int.reduceAdd, Int.reduceSub], by simp only [↓wA, wB, wZ, repeatV, RX.evs, spl, over, ones, Ex.ends, evR, oneOf, top, ↓reduceIte, Nat.reduceEqDiff, Nat.reduceLeDiff, Nat.reduceAdd, Nat.reduceSub, Nat.reduceMul, reduceCtorEq, Int.reduceEq, Int.reduceLT, Int.reduceLE, Int.reduceNeg, Int.reduceAdd, Int.reduceSub], 0, 1 + c.a.length + c.t.length + c.s.length / 100, by simp only [↓wA, wB, wZ, repeatV, RX.evs, spl, over, ones, Ex.ends, evR, oneOf, top, ↓reduceIte, Nat.reduceEqDiff, Nat.reduceLeDiff, Nat.reduceAdd, Nat.reduceSub, Nat.reduceMul, reduceCtorEq, Int.reduceEq, Int.reduceLT, Int.reduceLE, Int.reduceNeg, Int.reduceAdd, Int.reduceSub] <;> rfl, by omega, by simp only [↓wA, wB, wZ, repeatV, RX.evs, spl, over, ones, Ex.ends, evR, oneOf, top, ↓reduceIte, Nat.reduceEqDiff, Nat.reduceLeDiff, Nat.reduceAdd, Nat.reduceSub, Nat.reduceMul, reduceCtorEq, Int.reduceEq, Int.reduceLT, Int.reduceLE, Int.reduceNeg, Int.reduceAdd, Int.reduceSub], by rw [List.drop_zero]; rfl⟩
    · rintro r h' ⟨rfl, r1, r2, i, n, r6, hi, r5, hn⟩
      unfold c39l1
      by_cases hlt : i < c.a.length
      · have g0 : ((i : Int) < (c.a.length : Int)) = True := eq_true (by omega)
        obtain ⟨b, o, ia, ldn, ld⟩ := ats_at (Ha.ext e0) (k := .i64) hlt
        have l2 := ld 2 (by omega)
        have wi := w_inc hlt (by omega)
        rw [List.drop_eq_getElem_cons hlt, atW] at hn
        have hqs := hfa _ (List.getElem_mem hlt)
        generalize c.a[i] = q at *
        rw [show q.enc[2]? = some (.str q.s) from rfl] at l2
        have q2 := quo_100 (P := Tryz.prog) (n := q.s.length) (by omega)
        have w4 := wrap_add (a := n) (b := q.s.length / 100) (by omega)
        simp +contextual only [r1, r2, r5, r6, cb, la, g0, ia, l2, q2, w4, wi, ↓wA, wB, wZ, repeatV, RX.evs, spl, over, ones, Ex.ends, evR, oneOf, top, ↓reduceIte, Nat.reduceEqDiff, Nat.reduceLeDiff, Nat.reduceAdd, Nat.reduceSub, Nat.reduceMul, reduceCtorEq, Int.reduceEq, Int.reduceLT, Int.reduceLE, Int.reduceNeg, Int.reduceAdd, Int.reduceSub]
        exact ⟨⟨i + 1, n + q.s.length / 100, rfl, hlt, rfl, by omega⟩, by omega⟩
      · have g0 : ((i : Int) < (c.a.length : Int)) = False := eq_false (by omega)
        rw [List.drop_eq_nil_of_le (by omega), atW] at hn
        obtain rfl : n = own c := by omega
        simp +contextual only [r1, r2, r5, r6, cb, la, g0, ↓wA, wB, wZ, repeatV, RX.evs, spl, over, ones, Ex.ends, evR, oneOf, top, ↓reduceIte, Nat.reduceEqDiff, Nat.reduceLeDiff, Nat.reduceAdd, Nat.reduceSub, Nat.reduceMul, reduceCtorEq, Int.reduceEq, Int.reduceLT, Int.reduceLE, Int.reduceNeg, Int.reduceAdd, Int.reduceSub]
        refine loopK_intro (fun r h2 => Ext h' h2 ∧ r 1 = .int .i64 m ∧ r 2 = .ptr (pa h.next) 0 ∧ ∃ (i n : Nat), r 7 = .int .i64 i ∧ i ≤ c.l.length ∧ r 5 = .int .i64 n ∧ n ≤ m + 20000000000 ∧ (wt c ≤ m → n + wts (c.l.drop i) = wt c) ∧ (m < wt c → m < n + wts (c.l.drop i))) (fun r h' => c.l.length - (r 7).toN) ?_ ?_
        · exact ⟨Ext.refl _, by simp only [r1, ↓wA, wB, wZ, repeatV, RX.evs, spl, over, ones, Ex.ends, evR, oneOf, top, ↓reduceIte, Nat.reduceEqDiff, Nat.reduceLeDiff, Nat.reduceAdd, Nat.reduceSub, Nat.reduceMul, reduceCtorEq, Int.reduceEq, Int.reduceLT, Int.reduceLE, Int.reduceNeg, Int.reduceAdd, Int.reduceSub], by simp only [r2, ↓wA, wB, wZ, repeatV, RX.evs, spl, over, ones, Ex.ends, evR, oneOf, top, ↓reduceIte, Nat.reduceEqDiff, Nat.reduceLeDiff, Nat.reduceAdd, Nat.reduceSub, Nat.reduceMul, reduceCtorEq, Int.reduceEq, Int.reduceLT, Int.reduceLE, Int.reduceNeg, Int.reduceAdd, Int.reduceSub], 0, own c, by simp only [↓wA, wB, wZ, repeatV, RX.evs, spl, over, ones, Ex.ends, evR, oneOf, top, ↓reduceIte, Nat.reduceEqDiff, Nat.reduceLeDiff, Nat.reduceAdd, Nat.reduceSub, Nat.reduceMul, reduceCtorEq, Int.reduceEq, Int.reduceLT, Int.reduceLE, Int.reduceNeg, Int.reduceAdd, Int.reduceSub] <;> rfl, by omega, by simp only [r5, ↓wA, wB, wZ, repeatV, RX.evs, spl, over, ones, Ex.ends, evR, oneOf, top, ↓reduceIte, Nat.reduceEqDiff, Nat.reduceLeDiff, Nat.reduceAdd, Nat.reduceSub, Nat.reduceMul, reduceCtorEq, Int.reduceEq, Int.reduceLT, Int.reduceLE, Int.reduceNeg, Int.reduceAdd, Int.reduceSub], by omega, fun _ => by rw [List.drop_zero]; omega, fun _ => by rw [List.drop_zero]; omega⟩
        · clear r1 r2 r5 r6
          rintro r h2 ⟨hx, r1, r2, i, n, r7, hi, r5, hnm, hn1, hn2⟩
          unfold c39l2
          have bx : h2.get (pa h.next) = .ofL [.int .i64 c.k, .int .i64 c.x, .int .i64 c.n, .str c.s, va, vt, vl] 0 false := by rw [hx.get _ (old_lt n1)]; exact cb
          by_cases hlt : i < c.l.length
          · have g0 : ((i : Int) < (c.l.length : Int)) = True := eq_true (by omega)
            by_cases hle : n ≤ m
            · have g1 : ((n : Int) ≤ (m : Int)) = True := eq_true (by omega)
              obtain ⟨b, o, u, ia, hu, lds⟩ := Hl.atx (k := .i64) hlt
              have ld := (lds h2 (e0.trans hx)).1
              have hfi : c.l[i]? = some c.l[i] := List.getElem?_eq_getElem hlt
              have hsz := size_idx hfi
              have wi := w_inc hlt (by omega)
              have ws : IntKind.i64.wrap ((m : Int) - (n : Int)) = ((m - n : Nat) : Int) := by rw [wrap_i64 (by omega) (by omega)]; omega
              rw [List.drop_eq_getElem_cons hlt, wts] at hn1 hn2
              simp +contextual only [r1, r2, r5, r7, bx, ll, g0, g1, ia, ld, ws, ↓wA, wB, wZ, repeatV, RX.evs, spl, over, ones, Ex.ends, evR, oneOf, top, ↓reduceIte, Nat.reduceEqDiff, Nat.reduceLeDiff, Nat.reduceAdd, Nat.reduceSub, Nat.reduceMul, reduceCtorEq, Int.reduceEq, Int.reduceLT, Int.reduceLE, Int.reduceNeg, Int.reduceAdd, Int.reduceSub]
              refine callK_intro (cores_ctr N c.l[i] (by omega) (fits_at f5 hfi) u h2 (hu.ext (e0.trans hx)) (m - n) (by omega)) ?_
              rintro x h3 ⟨⟨n', rfl, p1, p2, p3⟩, e3⟩
              have w4 := wrap_add (a := n) (b := n') (by omega)
              simp +contextual only [r1, r2, r5, r7, w4, wi, ↓wA, wB, wZ, repeatV, RX.evs, spl, over, ones, Ex.ends, evR, oneOf, top, ↓reduceIte, Nat.reduceEqDiff, Nat.reduceLeDiff, Nat.reduceAdd, Nat.reduceSub, Nat.reduceMul, reduceCtorEq, Int.reduceEq, Int.reduceLT, Int.reduceLE, Int.reduceNeg, Int.reduceAdd, Int.reduceSub]
              refine ⟨⟨hx.trans e3, i + 1, n + n', rfl, hlt, rfl, by omega, fun q => ?_, fun q => ?_⟩, by omega⟩
              · have := hn1 q
                have := p2 (by omega)
                omega
              · have := hn2 q
                by_cases hc : wt c.l[i] ≤ m - n
                · have := p2 hc; omega
                · have := p3 (by omega); omega
            · have g1 : ((n : Int) ≤ (m : Int)) = False := eq_false (by omega)
              simp +contextual only [r1, r2, r5, r7, bx, ll, g0, g1, ↓wA, wB, wZ, repeatV, RX.evs, spl, over, ones, Ex.ends, evR, oneOf, top, ↓reduceIte, Nat.reduceEqDiff, Nat.reduceLeDiff, Nat.reduceAdd, Nat.reduceSub, Nat.reduceMul, reduceCtorEq, Int.reduceEq, Int.reduceLT, Int.reduceLE, Int.reduceNeg, Int.reduceAdd, Int.reduceSub]
              exact ⟨⟨n, rfl, hnm, fun q => by have := hn1 q; omega, fun q => by omega⟩, e0.trans hx⟩
          · have g0 : ((i : Int) < (c.l.length : Int)) = False := eq_false (by omega)
            rw [List.drop_eq_nil_of_le (by omega), wts] at hn1 hn2
            simp +contextual only [r1, r2, r5, r7, bx, ll, g0, ↓wA, wB, wZ, repeatV, RX.evs, spl, over, ones, Ex.ends, evR, oneOf, top, ↓reduceIte, Nat.reduceEqDiff, Nat.reduceLeDiff, Nat.reduceAdd, Nat.reduceSub, Nat.reduceMul, reduceCtorEq, Int.reduceEq, Int.reduceLT, Int.reduceLE, Int.reduceNeg, Int.reduceAdd, Int.reduceSub]
            exact ⟨⟨n, rfl, hnm, fun q => by have := hn1 q; omega, fun q => by have := hn2 q; omega⟩, e0.trans hx⟩

theorem large_ctr (c : Co) (hf : fit 1048576 c) (vs : List V) (h : Heap) (H : CoIn h c vs) : Ctr Tryz.prog 10 [.agg vs, .int .i64 400] h fun x h' => x = .bool (decide (400 < wt c)) ∧ Ext h h' := by
  obtain ⟨va, vt, vl, rfl, Ha, Ht, Hl⟩ := H.open
  refine c10_ctr rfl (wpK_of ?_)
  unfold c10
  have e0 : Ext h (h.new (.ofL [.int .i64 c.k, .int .i64 c.x, .int .i64 c.n, .str c.s, va, vt, vl] 0 false)) := (Ext.refl h).new _
  simp +contextual only [↓wA, wB, wZ, repeatV, RX.evs, spl, over, ones, Ex.ends, evR, oneOf, top, ↓reduceIte, Nat.reduceEqDiff, Nat.reduceLeDiff, Nat.reduceAdd, Nat.reduceSub, Nat.reduceMul, reduceCtorEq, Int.reduceEq, Int.reduceLT, Int.reduceLE, Int.reduceNeg, Int.reduceAdd, Int.reduceSub]
  refine callK_intro (cores_ctr (size c) c (Nat.le_refl _) hf _ _ (H.ext e0) 400 (by omega)) ?_
  rintro x h1 ⟨⟨n, rfl, p1, p2, p3⟩, e1⟩
  by_cases hw : 400 < wt c
  · have hn := p3 hw
    have g : ((400 : Int) < (n : Int)) = True := eq_true (by omega)
    have g' := eq_true hw
    simp +contextual only [g, g', ↓wA, wB, wZ, repeatV, RX.evs, spl, over, ones, Ex.ends, evR, oneOf, top, ↓reduceIte, Nat.reduceEqDiff, Nat.reduceLeDiff, Nat.reduceAdd, Nat.reduceSub, Nat.reduceMul, reduceCtorEq, Int.reduceEq, Int.reduceLT, Int.reduceLE, Int.reduceNeg, Int.reduceAdd, Int.reduceSub]
    exact e0.trans e1
  · have hn := p2 (by omega)
    have g : ((400 : Int) < (n : Int)) = False := eq_false (by omega)
    have g' := eq_false hw
    simp +contextual only [g, g', ↓wA, wB, wZ, repeatV, RX.evs, spl, over, ones, Ex.ends, evR, oneOf, top, ↓reduceIte, Nat.reduceEqDiff, Nat.reduceLeDiff, Nat.reduceAdd, Nat.reduceSub, Nat.reduceMul, reduceCtorEq, Int.reduceEq, Int.reduceLT, Int.reduceLE, Int.reduceNeg, Int.reduceAdd, Int.reduceSub]
    exact e0.trans e1
end Go.Proofs.YtjbiefneffiogaaGreat

namespace Go.Proofs.YtjbiefneffiogaaGreat
open Go Am
set_option linter.unusedSectionVars false
set_option linter.unusedSimpArgs false
set_option linter.unusedVariables false

/-- a part's cells; its lists' blocks are of a kind -/
inductive CoF (F : Pa → Prop) (h : Heap) : Co → List V → Prop
  | mk {k x n : Int} {s : List UInt8} {a : List At} {t : List Int} {l : List Co} {va vt vl : V} {us : List (List V)} (ha : SlV h 3 va a.length (atsV a)) (ht : SlV h 1 vt t.length (intsV t))
    (hr : roomV vl) (hl : SlV h 7 vl l.length us.flatten) (hu : us.length = l.length) (kids : ∀ (i : Nat) (c : Co) (u : List V), l[i]? = some c → us[i]? = some u → CoF F h c u)
    (fa : ∀ b, va.blk b → F b) (ft : ∀ b, vt.blk b → F b) (fl : ∀ b, vl.blk b → F b) :
    CoF F h (.mk k x n s a t l) [.int .i64 k, .int .i64 x, .int .i64 n, .str s, va, vt, vl]
theorem CoF.co {F : Pa → Prop} {h : Heap} {c : Co} {vs : List V} (H : CoF F h c vs) : CoIn h c vs := by
  induction H with
  | mk ha ht hr hl hu kids fa ft fl ih => exact .mk ha ht hr hl hu ih
theorem CoF.mod {F F' M : Pa → Prop} {h h' : Heap} (m : Mod M h h') (hM : ∀ b, F b → Old h b → ¬ M b ∧ F' b) {c : Co} {vs : List V} (H : CoF F h c vs) : CoF F' h' c vs := by
  induction H with
  | mk ha ht hr hl hu kids fa ft fl ih =>
    exact .mk (ha.mod m fun b q => (hM b (fa b q) (ha.old q)).1) (ht.mod m fun b q => (hM b (ft b q) (ht.old q)).1) hr (hl.mod m fun b q => (hM b (fl b q) (hl.old q)).1) hu ih
      (fun b q => (hM b (fa b q) (ha.old q)).2) (fun b q => (hM b (ft b q) (ht.old q)).2) (fun b q => (hM b (fl b q) (hl.old q)).2)

theorem atsV_ones : ∀ l : List At, ones (atsV l) = true
  | [] => rfl
  | a :: l => by rw [atsV]; exact ones_append rfl (atsV_ones l)
theorem flatten_snoc (us : List (List V)) (u : List V) : (us ++ [u]).flatten = us.flatten ++ u := by simp
theorem roomV_of {B : Nat} {h : Heap} {size n : Nat} {v : V} {vs : List V} (H : SlO B h size v n vs) : roomV v := by
  intro b off l c e
  exact SlV.capOf H b off l c e

set_option maxHeartbeats 2000000 in
theorem copy_ctr : ∀ (N : Nat) (c : Co), size c ≤ N → fit 1048576 c → ∀ (vs : List V) (h : Heap), CoIn h c vs →
    Ctr Tryz.prog 12 [.agg vs] h fun x h' => ∃ us, x = .agg us ∧ CoF (fun b => h.next ≤ unPa b) h' c us ∧ Ext h h'
  | 0, c, hs, _, _, _, _ => by have := size_pos c; omega
  | N + 1, c, hs, hf, vs, h, H => by
    obtain ⟨f1, f2, f3, f4, f5⟩ := hf.kids
    have hsl := size_l c
    obtain ⟨va, vt, vl, rfl, Ha, Ht, Hl⟩ := H.open
    refine c12_ctr rfl (wpK_of ?_)
    unfold c12
    have e1 : Ext h ((h.new (.ofL [.int .i64 c.k, .int .i64 c.x, .int .i64 c.n, .str c.s, va, vt, vl] 0 false)).new (.ofL [.int .i64 0, .int .i64 0, .int .i64 0, .str [], .nilslice, .nilslice, .nilslice] 0 false)) := ((Ext.refl h).new _).new _
    have g1 : ((h.new (.ofL [.int .i64 c.k, .int .i64 c.x, .int .i64 c.n, .str c.s, va, vt, vl] 0 false)).new (.ofL [.int .i64 0, .int .i64 0, .int .i64 0, .str [], .nilslice, .nilslice, .nilslice] 0 false)).get (pa h.next) = .ofL [.int .i64 c.k, .int .i64 c.x, .int .i64 c.n, .str c.s, va, vt, vl] 0 false := by
      rw [get_new, if_neg (by rw [pa_eq, next_new]; omega), get_new_self]
    have z1 : ((h.new (.ofL [.int .i64 c.k, .int .i64 c.x, .int .i64 c.n, .str c.s, va, vt, vl] 0 false)).new (.ofL [.int .i64 0, .int .i64 0, .int .i64 0, .str [], .nilslice, .nilslice, .nilslice] 0 false)).get (pa (h.next + 1)) = .ofL [.int .i64 0, .int .i64 0, .int .i64 0, .str [], .nilslice, .nilslice, .nilslice] 0 false := by
      rw [get_new, if_pos (by rw [next_new])]
    have n1 : ((h.new (.ofL [.int .i64 c.k, .int .i64 c.x, .int .i64 c.n, .str c.s, va, vt, vl] 0 false)).new (.ofL [.int .i64 0, .int .i64 0, .int .i64 0, .str [], .nilslice, .nilslice, .nilslice] 0 false)).next = h.next + 2 := by rw [next_new, next_new]
    simp +contextual only [↓wA, wB, wZ, repeatV, RX.evs, spl, over, ones, Ex.ends, evR, oneOf, top, ↓reduceIte, Nat.reduceEqDiff, Nat.reduceLeDiff, Nat.reduceAdd, Nat.reduceSub, Nat.reduceMul, reduceCtorEq, Int.reduceEq, Int.reduceLT, Int.reduceLE, Int.reduceNeg, Int.reduceAdd, Int.reduceSub]
    generalize ((h.new (.ofL [.int .i64 c.k, .int .i64 c.x, .int .i64 c.n, .str c.s, va, vt, vl] 0 false)).new (.ofL [.int .i64 0, .int .i64 0, .int .i64 0, .str [], .nilslice, .nilslice, .nilslice] 0 false)) = H1 at *
    -- the atoms
    have s1 : Ext H1 (H1.new (.ofL [] 0 false)) := (Ext.refl H1).new _
    obtain ⟨va', h2, p1, p2, p3, p4⟩ := app_own (B := h.next + 2) (size := 3) (by omega) (SlO.empty (h := H1) 3 (by omega)) ((Ha.ext e1).ext s1) (by rw [next_new]; omega) (by unfold top; omega) (atsV_ones c.a)
    have e2 : Ext H1 h2 := s1.mod_new p3 (fun b hb => by
      have : b = pa H1.next := hb
      rw [this, unPa_pa]; exact Nat.le_refl _)
    rw [n1] at p1
    rw [List.nil_append, Nat.zero_add] at p2
    have hn2 := e2.next
    have g2 : h2.get (pa h.next) = .ofL [.int .i64 c.k, .int .i64 c.x, .int .i64 c.n, .str c.s, va, vt, vl] 0 false := by rw [e2.get _ (old_lt (by omega))]; exact g1
    have z2 : h2.get (pa (h.next + 1)) = .ofL [.int .i64 0, .int .i64 0, .int .i64 0, .str [], .nilslice, .nilslice, .nilslice] 0 false := by rw [e2.get _ (old_lt (by omega))]; exact z1
    have o1 := p2.v.one
    have nn : (h2.next = h.next) = False := eq_false (by omega)
    simp +contextual only [g1, p1, g2, nn, o1.1, o1.2.1, ↓wA, wB, wZ, repeatV, RX.evs, spl, over, ones, Ex.ends, evR, oneOf, top, ↓reduceIte, Nat.reduceEqDiff, Nat.reduceLeDiff, Nat.reduceAdd, Nat.reduceSub, Nat.reduceMul, reduceCtorEq, Int.reduceEq, Int.reduceLT, Int.reduceLE, Int.reduceNeg, Int.reduceAdd, Int.reduceSub]
    have k2 : Mod (fun b => b = pa h.next) h2 (h2.set (pa h.next) (.ofL [.int .i64 c.k, .int .i64 c.x, .int .i64 c.n, .str c.s, va', vt, vl] 0 false)) := (Mod.refl (fun b => b = pa h.next) h2).set (fun _ => rfl) _
    have E2 : Ext h (h2.set (pa h.next) (.ofL [.int .i64 c.k, .int .i64 c.x, .int .i64 c.n, .str c.s, va', vt, vl] 0 false)) := (e1.trans e2).mod_new k2 (fun b hb => by rw [hb, unPa_pa]; exact Nat.le_refl _)
    have P2 : SlO (h.next + 2) (h2.set (pa h.next) (.ofL [.int .i64 c.k, .int .i64 c.x, .int .i64 c.n, .str c.s, va', vt, vl] 0 false)) 3 va' c.a.length (atsV c.a) := p2.mod k2 (fun b q e => by have := p2.base q; rw [e, unPa_pa] at this; omega)
    have G2 : (h2.set (pa h.next) (.ofL [.int .i64 c.k, .int .i64 c.x, .int .i64 c.n, .str c.s, va', vt, vl] 0 false)).get (pa h.next) = .ofL [.int .i64 c.k, .int .i64 c.x, .int .i64 c.n, .str c.s, va', vt, vl] 0 false := by rw [get_set, if_pos rfl]
    have Z2 : (h2.set (pa h.next) (.ofL [.int .i64 c.k, .int .i64 c.x, .int .i64 c.n, .str c.s, va', vt, vl] 0 false)).get (pa (h.next + 1)) = .ofL [.int .i64 0, .int .i64 0, .int .i64 0, .str [], .nilslice, .nilslice, .nilslice] 0 false := by rw [get_set, if_neg (by rw [pa_eq]; omega)]; exact z2
    have N2 : h.next + 2 ≤ (h2.set (pa h.next) (.ofL [.int .i64 c.k, .int .i64 c.x, .int .i64 c.n, .str c.s, va', vt, vl] 0 false)).next := by rw [next_set]; omega
    have N2' : (h2.set (pa h.next) (.ofL [.int .i64 c.k, .int .i64 c.x, .int .i64 c.n, .str c.s, va', vt, vl] 0 false)).next = h2.next := next_set _ _ _
    generalize (h2.set (pa h.next) (.ofL [.int .i64 c.k, .int .i64 c.x, .int .i64 c.n, .str c.s, va', vt, vl] 0 false)) = H2 at *
    clear p2 k2
    -- the tags
    have s2 : Ext H2 (H2.new (.ofL [] 0 false)) := (Ext.refl H2).new _
    obtain ⟨vt', h3, q1, q2, q3, q4⟩ := app_own (B := H2.next) (size := 1) (by omega) (SlO.empty (h := H2) 1 (by omega)) ((Ht.ext E2).ext s2) (by rw [next_new]; omega) (by unfold top; omega) (intsV_ones c.t)
    have e3 : Ext H2 h3 := s2.mod_new q3 (fun b hb => by
      have : b = pa H2.next := hb
      rw [this, unPa_pa]; exact Nat.le_refl _)
    rw [List.nil_append, Nat.zero_add] at q2
    rw [N2'] at q1
    have hn3 := e3.next
    have g3 : h3.get (pa h.next) = .ofL [.int .i64 c.k, .int .i64 c.x, .int .i64 c.n, .str c.s, va', vt, vl] 0 false := by rw [e3.get _ (old_lt (by omega))]; exact G2
    have z3 : h3.get (pa (h.next + 1)) = .ofL [.int .i64 0, .int .i64 0, .int .i64 0, .str [], .nilslice, .nilslice, .nilslice] 0 false := by rw [e3.get _ (old_lt (by omega))]; exact Z2
    have o2 := q2.v.one
    simp +contextual only [G2, q1, g3, o2.1, o2.2.1, ↓wA, wB, wZ, repeatV, RX.evs, spl, over, ones, Ex.ends, evR, oneOf, top, ↓reduceIte, Nat.reduceEqDiff, Nat.reduceLeDiff, Nat.reduceAdd, Nat.reduceSub, Nat.reduceMul, reduceCtorEq, Int.reduceEq, Int.reduceLT, Int.reduceLE, Int.reduceNeg, Int.reduceAdd, Int.reduceSub]
    have k3 : Mod (fun b => b = pa h.next) h3 ((h3.set (pa h.next) (.ofL [.int .i64 c.k, .int .i64 c.x, .int .i64 c.n, .str c.s, va', vt', vl] 0 false)).set (pa h.next) (.ofL [.int .i64 c.k, .int .i64 c.x, .int .i64 c.n, .str c.s, va', vt', .nilslice] 0 false)) := ((Mod.refl (fun b => b = pa h.next) h3).set (fun _ => rfl) _).set (fun _ => rfl) _
    have E3 : Ext h ((h3.set (pa h.next) (.ofL [.int .i64 c.k, .int .i64 c.x, .int .i64 c.n, .str c.s, va', vt', vl] 0 false)).set (pa h.next) (.ofL [.int .i64 c.k, .int .i64 c.x, .int .i64 c.n, .str c.s, va', vt', .nilslice] 0 false)) := (E2.trans e3).mod_new k3 (fun b hb => by rw [hb, unPa_pa]; exact Nat.le_refl _)
    have P3 : SlO (h.next + 2) ((h3.set (pa h.next) (.ofL [.int .i64 c.k, .int .i64 c.x, .int .i64 c.n, .str c.s, va', vt', vl] 0 false)).set (pa h.next) (.ofL [.int .i64 c.k, .int .i64 c.x, .int .i64 c.n, .str c.s, va', vt', .nilslice] 0 false)) 3 va' c.a.length (atsV c.a) := (P2.ext e3).mod k3 (fun b q e => by have := P2.base q; rw [e, unPa_pa] at this; omega)
    have Q3 : SlO (h.next + 2) ((h3.set (pa h.next) (.ofL [.int .i64 c.k, .int .i64 c.x, .int .i64 c.n, .str c.s, va', vt', vl] 0 false)).set (pa h.next) (.ofL [.int .i64 c.k, .int .i64 c.x, .int .i64 c.n, .str c.s, va', vt', .nilslice] 0 false)) 1 vt' c.t.length (intsV c.t) := (q2.mono N2).mod k3 (fun b q e => by have := q2.base q; rw [e, unPa_pa] at this; omega)
    have G3 : ((h3.set (pa h.next) (.ofL [.int .i64 c.k, .int .i64 c.x, .int .i64 c.n, .str c.s, va', vt', vl] 0 false)).set (pa h.next) (.ofL [.int .i64 c.k, .int .i64 c.x, .int .i64 c.n, .str c.s, va', vt', .nilslice] 0 false)).get (pa h.next) = (.ofL [.int .i64 c.k, .int .i64 c.x, .int .i64 c.n, .str c.s, va', vt', .nilslice] 0 false) := by rw [get_set, if_pos rfl]
    have Z3 : ((h3.set (pa h.next) (.ofL [.int .i64 c.k, .int .i64 c.x, .int .i64 c.n, .str c.s, va', vt', vl] 0 false)).set (pa h.next) (.ofL [.int .i64 c.k, .int .i64 c.x, .int .i64 c.n, .str c.s, va', vt', .nilslice] 0 false)).get (pa (h.next + 1)) = .ofL [.int .i64 0, .int .i64 0, .int .i64 0, .str [], .nilslice, .nilslice, .nilslice] 0 false := by rw [get_set, if_neg (by rw [pa_eq]; omega), get_set, if_neg (by rw [pa_eq]; omega)]; exact z3
    have N3 : h.next + 2 ≤ ((h3.set (pa h.next) (.ofL [.int .i64 c.k, .int .i64 c.x, .int .i64 c.n, .str c.s, va', vt', vl] 0 false)).set (pa h.next) (.ofL [.int .i64 c.k, .int .i64 c.x, .int .i64 c.n, .str c.s, va', vt', .nilslice] 0 false)).next := by rw [next_set, next_set]; omega
    generalize ((h3.set (pa h.next) (.ofL [.int .i64 c.k, .int .i64 c.x, .int .i64 c.n, .str c.s, va', vt', vl] 0 false)).set (pa h.next) (.ofL [.int .i64 c.k, .int .i64 c.x, .int .i64 c.n, .str c.s, va', vt', .nilslice] 0 false)) = H3 at *
    refine loopK_intro (fun r g => r 1 = .ptr (pa h.next) 0 ∧ r 2 = .ptr (pa (h.next + 1)) 0 ∧ r 3 = vl ∧ ∃ (i : Nat) (w : V) (us : List (List V)), r 4 = .int .i64 i ∧ i ≤ c.l.length ∧ Ext h g ∧ h.next + 2 ≤ g.next ∧ g.get (pa h.next) = (.ofL [.int .i64 c.k, .int .i64 c.x, .int .i64 c.n, .str c.s, va', vt', w] 0 false) ∧ g.get (pa (h.next + 1)) = .ofL [.int .i64 0, .int .i64 0, .int .i64 0, .str [], .nilslice, .nilslice, .nilslice] 0 false ∧
      SlO (h.next + 2) g 3 va' c.a.length (atsV c.a) ∧ SlO (h.next + 2) g 1 vt' c.t.length (intsV c.t) ∧ (∀ b, va'.blk b ∨ vt'.blk b → ¬ w.blk b) ∧ us.length = i ∧ SlO (h.next + 2) g 7 w i us.flatten ∧
      ∀ (j : Nat) (d : Co) (u : List V), j < i → c.l[j]? = some d → us[j]? = some u → CoF (fun b => h.next + 2 ≤ unPa b ∧ ¬ w.blk b) g d u) (fun r h' => c.l.length - (r 4).toN) ?_ ?_
    · exact ⟨by simp only [↓wA, wB, wZ, repeatV, RX.evs, spl, over, ones, Ex.ends, evR, oneOf, top, ↓reduceIte, Nat.reduceEqDiff, Nat.reduceLeDiff, Nat.reduceAdd, Nat.reduceSub, Nat.reduceMul, reduceCtorEq, Int.reduceEq, Int.reduceLT, Int.reduceLE, Int.reduceNeg, Int.reduceAdd, Int.reduceSub], by simp only [↓wA, wB, wZ, repeatV, RX.evs, spl, over, ones, Ex.ends, evR, oneOf, top, ↓reduceIte, Nat.reduceEqDiff, Nat.reduceLeDiff, Nat.reduceAdd, Nat.reduceSub, Nat.reduceMul, reduceCtorEq, Int.reduceEq, Int.reduceLT, Int.reduceLE, Int.reduceNeg, Int.reduceAdd, Int.reduceSub], by simp only [↓wA, wB, wZ, repeatV, RX.evs, spl, over, ones, Ex.ends, evR, oneOf, top, ↓reduceIte, Nat.reduceEqDiff, Nat.reduceLeDiff, Nat.reduceAdd, Nat.reduceSub, Nat.reduceMul, reduceCtorEq, Int.reduceEq, Int.reduceLT, Int.reduceLE, Int.reduceNeg, Int.reduceAdd, Int.reduceSub], 0, .nilslice, [], by simp only [↓wA, wB, wZ, repeatV, RX.evs, spl, over, ones, Ex.ends, evR, oneOf, top, ↓reduceIte, Nat.reduceEqDiff, Nat.reduceLeDiff, Nat.reduceAdd, Nat.reduceSub, Nat.reduceMul, reduceCtorEq, Int.reduceEq, Int.reduceLT, Int.reduceLE, Int.reduceNeg, Int.reduceAdd, Int.reduceSub] <;> rfl, by omega, E3, N3, G3, Z3, P3, Q3, fun b _ q => q.elim, rfl, ⟨rfl, rfl⟩, fun j d u hj => by omega⟩
    · clear G3 Z3 P3 Q3 E3 N3 k3
      rintro r g ⟨r1, r2, r3, i, w, us, r4, hi, E, hn, gb, gz, Pa3, Pt3, hdis, hul, Pw, hkids⟩
      unfold c12l1
      have hL := (Hl.ext E).len
      by_cases hlt : i < c.l.length
      · have g0 : ((i : Int) < (c.l.length : Int)) = True := eq_true (by omega)
        obtain ⟨b, o, u, ia, hu, lds⟩ := Hl.atx (k := .i64) hlt
        have ld := fun g2 e => (lds g2 e).1
        have hfi : c.l[i]? = some c.l[i] := List.getElem?_eq_getElem hlt
        have hsz := size_idx hfi
        have wi := w_inc hlt (by omega)
        simp +contextual only [r1, r2, r3, r4, hL, g0, gb, ia, ld g E, ↓wA, wB, wZ, repeatV, RX.evs, spl, over, ones, Ex.ends, evR, oneOf, top, ↓reduceIte, Nat.reduceEqDiff, Nat.reduceLeDiff, Nat.reduceAdd, Nat.reduceSub, Nat.reduceMul, reduceCtorEq, Int.reduceEq, Int.reduceLT, Int.reduceLE, Int.reduceNeg, Int.reduceAdd, Int.reduceSub]
        refine callK_intro (copy_ctr N c.l[i] (by omega) (fits_at f5 hfi) u g (hu.ext E)) ?_
        rintro x g2 ⟨u', rfl, Hu', e2⟩
        obtain ⟨fa, ft, fl, hueq, Fa, Ft, Fl⟩ := Hu'.co.open
        have ho : ones u' = true := by rw [hueq]; simp only [ones, Fa.one.1, Ft.one.1, Fl.one.1, Bool.and_self, show ∀ (k : IntKind) (n : Int), V.one (.int k n) = true from fun _ _ => rfl, show ∀ s, V.one (.str s) = true from fun _ => rfl]
        have hul' : u'.length = 7 := by rw [hueq]; rfl
        have hn2 := e2.next
        have gb2 : g2.get (pa h.next) = (.ofL [.int .i64 c.k, .int .i64 c.x, .int .i64 c.n, .str c.s, va', vt', w] 0 false) := by rw [e2.get _ (old_lt (by omega))]; exact gb
        have gz2 : g2.get (pa (h.next + 1)) = .ofL [.int .i64 0, .int .i64 0, .int .i64 0, .str [], .nilslice, .nilslice, .nilslice] 0 false := by rw [e2.get _ (old_lt (by omega))]; exact gz
        have Pw2 := Pw.ext e2
        obtain ⟨w', g3, a1, a2, a3, a4, a5⟩ := app_one (cs := u') (by omega) Pw2 (by omega) (by unfold top; omega) hul' ho
        have ow := a2.v.one
        have bold : ∀ b, w.blk b → unPa b < g.next := fun b q => Pw.v.old q
        have b1n : ¬ w.blk (pa h.next) := fun q => by have := Pw.base q; rw [unPa_pa] at this; omega
        have b2n : ¬ w.blk (pa (h.next + 1)) := fun q => by have := Pw.base q; rw [unPa_pa] at this; omega
        have gb3 : g3.get (pa h.next) = (.ofL [.int .i64 c.k, .int .i64 c.x, .int .i64 c.n, .str c.s, va', vt', w] 0 false) := by rw [a3.get _ (old_lt (by omega)) b1n]; exact gb2
        have gz3 : g3.get (pa (h.next + 1)) = .ofL [.int .i64 0, .int .i64 0, .int .i64 0, .str [], .nilslice, .nilslice, .nilslice] 0 false := by rw [a3.get _ (old_lt (by omega)) b2n]; exact gz2
        have m4 : Mod (fun b => b = pa h.next ∨ w.blk b) g2 (g3.set (pa h.next) (.ofL [.int .i64 c.k, .int .i64 c.x, .int .i64 c.n, .str c.s, va', vt', w'] 0 false)) := (a3.mono fun b _ q => .inr q).set (fun _ => .inl rfl) _
        have m3 : Mod (fun b => b = pa h.next) g3 (g3.set (pa h.next) (.ofL [.int .i64 c.k, .int .i64 c.x, .int .i64 c.n, .str c.s, va', vt', w'] 0 false)) := (Mod.refl (fun b => b = pa h.next) g3).set (fun _ => rfl) _
        have mg : Mod (fun b => b = pa h.next ∨ w.blk b) g (g3.set (pa h.next) (.ofL [.int .i64 c.k, .int .i64 c.x, .int .i64 c.n, .str c.s, va', vt', w'] 0 false)) := (e2.mod _).trans m4
        have E4 : Ext h (g3.set (pa h.next) (.ofL [.int .i64 c.k, .int .i64 c.x, .int .i64 c.n, .str c.s, va', vt', w'] 0 false)) := E.mod_new mg (fun b q => by
          rcases q with q | q
          · rw [q, unPa_pa]; exact Nat.le_refl _
          · have := Pw.base q; omega)
        have eA : Ext g2 (g2.new (.ofL u' 0 false)) := (Ext.refl g2).new _
        have gbA : (g2.new (.ofL u' 0 false)).get (pa h.next) = (.ofL [.int .i64 c.k, .int .i64 c.x, .int .i64 c.n, .str c.s, va', vt', w] 0 false) := by rw [eA.get _ (old_lt (by omega))]; exact gb2
        have ldA := ld _ ((E.trans e2).trans eA)
        subst hueq
        simp +contextual only [r1, r2, r3, r4, hL, gb, ia, ld g E, ld g2 (E.trans e2), gb2, gb3, gbA, a1, ow.1, ow.2.1, Fa.one.1, Ft.one.1, Fl.one.1, wi, ↓wA, wB, wZ, repeatV, RX.evs, spl, over, ones, Ex.ends, evR, oneOf, top, ↓reduceIte, Nat.reduceEqDiff, Nat.reduceLeDiff, Nat.reduceAdd, Nat.reduceSub, Nat.reduceMul, reduceCtorEq, Int.reduceEq, Int.reduceLT, Int.reduceLE, Int.reduceNeg, Int.reduceAdd, Int.reduceSub]
        have w'n : ∀ b, unPa b < g2.next → ¬ w.blk b → ¬ w'.blk b := fun b q1 q2 q => by
          rcases a5 b q with q | q
          · exact q2 q
          · omega
        have a2' := a2.mod m3 (fun b q e => by have := a2.base q; rw [e, unPa_pa] at this; omega)
        refine ⟨⟨i + 1, w', us ++ [[.int .i64 c.l[i].k, .int .i64 c.l[i].x, .int .i64 c.l[i].n, .str c.l[i].s, fa, ft, fl]], rfl, hlt, E4, by omega, rfl, gz3, ?_, ?_, ?_, by simp [hul], ?_, ?_⟩, by omega⟩
        · exact Pa3.mod mg (fun b q e => by
            rcases e with e | e
            · have := Pa3.base q; rw [e, unPa_pa] at this; omega
            · exact hdis b (.inl q) e)
        · exact Pt3.mod mg (fun b q e => by
            rcases e with e | e
            · have := Pt3.base q; rw [e, unPa_pa] at this; omega
            · exact hdis b (.inr q) e)
        · intro b q
          have : unPa b < g.next := by
            rcases q with q | q
            · exact Pa3.v.old q
            · exact Pt3.v.old q
          exact w'n b (by omega) (hdis b q)
        · rw [flatten_snoc]; exact a2'
        · intro j d v hj q1 q2
          by_cases hji : j < i
          · rw [List.getElem?_append_left (by omega)] at q2
            refine (hkids j d v hji q1 q2).mod mg (fun b f o => ⟨fun e => ?_, f.1, w'n b (by unfold Old at o; omega) f.2⟩)
            rcases e with e | e
            · have := f.1; rw [e, unPa_pa] at this; omega
            · exact f.2 e
          · obtain rfl : j = i := by omega
            rw [List.getElem?_append_right (by omega), hul, Nat.sub_self] at q2
            simp only [List.getElem?_cons_zero, Option.some.injEq] at q2
            rw [hfi] at q1
            cases q1
            subst q2
            refine Hu'.mod m4 (fun b f o => ⟨fun e => ?_, by omega, w'n b (by unfold Old at o; omega) (fun q => by have := bold b q; omega)⟩)
            rcases e with e | e
            · rw [e, unPa_pa] at f; omega
            · have := bold b e; omega
      · have g0 : ((i : Int) < (c.l.length : Int)) = False := eq_false (by omega)
        obtain rfl : i = c.l.length := by omega
        have oa := Pa3.v.one
        have ot := Pt3.v.one
        have ow := Pw.v.one
        simp +contextual only [r1, r2, r3, r4, hL, g0, gb, gz, oa.1, ot.1, ow.1, ↓wA, wB, wZ, repeatV, RX.evs, spl, over, ones, Ex.ends, evR, oneOf, top, ↓reduceIte, Nat.reduceEqDiff, Nat.reduceLeDiff, Nat.reduceAdd, Nat.reduceSub, Nat.reduceMul, reduceCtorEq, Int.reduceEq, Int.reduceLT, Int.reduceLE, Int.reduceNeg, Int.reduceAdd, Int.reduceSub]
        have m5 : Mod (fun b => b = pa (h.next + 1)) g (g.set (pa (h.next + 1)) (.ofL [.int .i64 c.k, .int .i64 c.x, .int .i64 c.n, .str c.s, va', vt', w] 0 false)) := (Mod.refl (fun b => b = pa (h.next + 1)) g).set (fun _ => rfl) _
        refine ⟨_, rfl, ?_, E.mod_new m5 (fun b q => by rw [q, unPa_pa]; omega)⟩
        have key : CoF (fun b => h.next + 2 ≤ unPa b) g (.mk c.k c.x c.n c.s c.a c.t c.l) [.int .i64 c.k, .int .i64 c.x, .int .i64 c.n, .str c.s, va', vt', w] := by
          refine .mk Pa3.v Pt3.v (roomV_of Pw) Pw.v hul (fun j d u q1 q2 => ?_) (fun b q => Pa3.base q) (fun b q => Pt3.base q) (fun b q => Pw.base q)
          exact (hkids j d u (List.getElem?_eq_some_iff.1 q1).1 q1 q2).mod (Mod.refl (fun _ => False) g) (fun b f o => ⟨fun q => q, f.1⟩)
        have key2 := key.mod (F' := fun b => h.next ≤ unPa b) m5 (fun b f o => ⟨fun e => by rw [e, unPa_pa] at f; omega, by omega⟩)
        cases c
        exact key2
end Go.Proofs.YtjbiefneffiogaaGreat

namespace Go.Proofs.YtjbiefneffiogaaGreat
open Go Am
set_option linter.unusedSectionVars false
set_option linter.unusedSimpArgs false
set_option linter.unusedVariables false

theorem sum_len : ∀ {ms : List Nat}, (∀ (i k : Nat), ms[i]? = some k → 1 ≤ k) → ms.length ≤ ms.sum
  | [], _ => Nat.le_refl _
  | m :: ms, h => by
    have h0 := h 0 m rfl
    have := sum_len (ms := ms) fun i k q => h (i + 1) k (by simpa using q)
    simp only [List.length_cons, List.sum_cons]
    omega
theorem sum_at : ∀ {ms : List Nat} {i k : Nat}, ms[i]? = some k → k ≤ ms.sum
  | [], _, _, h => by simp at h
  | m :: ms, 0, k, h => by simp only [List.getElem?_cons_zero, Option.some.injEq] at h; subst h; simp only [List.sum_cons]; omega
  | m :: ms, i + 1, k, h => by
    have := sum_at (ms := ms) (i := i) (k := k) (by simpa using h)
    simp only [List.sum_cons]; omega
theorem cells41 : Tryz.prog.cellsOf 41 = 3 := by kernel_rfl
theorem cells26 : Tryz.prog.cellsOf 26 = 7 := by kernel_rfl
theorem cells22 : Tryz.prog.cellsOf 22 = 1 := by kernel_rfl
theorem cells23 : Tryz.prog.cellsOf 23 = 1 := by kernel_rfl
theorem cells24 : Tryz.prog.cellsOf 24 = 1 := by kernel_rfl
theorem cells3 : Tryz.prog.cellsOf 3 = 1 := by kernel_rfl
theorem cells9 : Tryz.prog.cellsOf 9 = 1 := by kernel_rfl
theorem atsV_flat : ∀ l : List At, l.flatMap At.enc = atsV l
  | [] => rfl
  | a :: l => by rw [List.flatMap_cons, atsV_flat l]; rfl
theorem intsV_flat : ∀ l : List Int, l.flatMap (fun i => [V.int .i64 i]) = intsV l
  | [] => rfl
  | a :: l => by rw [List.flatMap_cons, intsV_flat l]; rfl

set_option maxRecDepth 10000 in
theorem open_at {h : Heap} {n m : Nat} {vs : List V} (H : Shp Tryz.prog h n m 41 vs) : ∃ a : At, vs = a.enc ∧ a.s.length ≤ m := by
  obtain ⟨n', rfl, hl, ms, h1, h2, h3⟩ := H.struct Tryz.underlying41
  rw [cells41] at hl
  match vs, hl with
  | [v0, v1, v2], _ =>
    have h1' : ms.length = 3 := h1
    clear h1
    match ms, h1' with
    | [m0, m1, m2], _ =>
      have f0 := (h3 0 _ _ rfl rfl).2
      have f1 := (h3 1 _ _ rfl rfl).2
      have f2 := (h3 2 _ _ rfl rfl).2
      simp only [cells3, cells9] at f0 f1 f2
      obtain ⟨i0, e0, _⟩ := f0.int Tryz.underlying3
      obtain ⟨i1, e1, _⟩ := f1.int Tryz.underlying3
      obtain ⟨s, e2, hs⟩ := f2.str Tryz.underlying9
      simp only [List.drop_zero, List.drop_succ_cons, List.take_succ_cons, List.take_zero, List.cons.injEq, and_true] at e0 e1 e2
      subst e0 e1 e2
      simp only [List.sum_cons, List.sum_nil] at h2
      exact ⟨⟨i0, i1, s⟩, rfl, by simp only; omega⟩

theorem open_ats {h : Heap} {n m : Nat} {v : V} {len : Nat} (H : Sld h 3 v len m (fun k => Shp Tryz.prog h n k 41)) : ∃ a : List At, SlV h 3 v a.length (atsV a) ∧ a.length ≤ m ∧ ∀ q ∈ a, q.s.length ≤ m := by
  obtain ⟨_, _, _, _, _, us, ms, h1, h2, h3, h4⟩ := H
  have hsum := sum_len fun i k q => (h4 i k q).1
  obtain ⟨bs, g1, g2, g3⟩ := collect At.enc 3 (fun a => a.s.length ≤ m) len us h1.1 (fun i hi => by
    obtain ⟨k, hk⟩ : ∃ k, ms[i]? = some k := ⟨_, List.getElem?_eq_getElem (by omega)⟩
    obtain ⟨a, e, q⟩ := open_at (h4 i k hk).2
    have := sum_at hk
    exact ⟨a, e, by omega⟩)
  subst g1
  rw [g2, atsV_flat] at h1
  exact ⟨bs, h1, by omega, g3⟩
theorem open_ints {h : Heap} {n m : Nat} {v : V} {len : Nat} (H : Sld h 1 v len m (fun k => Shp Tryz.prog h n k 3)) : ∃ a : List Int, SlV h 1 v a.length (intsV a) ∧ a.length ≤ m := by
  obtain ⟨_, _, _, _, _, us, ms, h1, h2, h3, h4⟩ := H
  have hsum := sum_len fun i k q => (h4 i k q).1
  obtain ⟨bs, g1, g2, g3⟩ := collect (fun i => [V.int .i64 i]) 1 (fun _ => True) len us h1.1 (fun i hi => by
    obtain ⟨k, hk⟩ : ∃ k, ms[i]? = some k := ⟨_, List.getElem?_eq_getElem (by omega)⟩
    obtain ⟨a, e, q⟩ := (h4 i k hk).2.int Tryz.underlying3
    exact ⟨a, e, trivial⟩)
  subst g1
  rw [g2, intsV_flat] at h1
  exact ⟨bs, h1, by omega⟩
theorem fits_of_all {m : Nat} : ∀ {l : List Co}, (∀ c ∈ l, fit m c) → fits m l
  | [], _ => trivial
  | c :: cs, h => ⟨h c (by simp), fits_of_all fun d hd => h d (by simp [hd])⟩
theorem fit.up {m m' : Nat} (h : m ≤ m') : ∀ c : Co, fit m c → fit m' c := by
  have both : ∀ N, (∀ c : Co, size c ≤ N → fit m c → fit m' c) := by
    intro N
    induction N with
    | zero => intro c hs; have := size_pos c; omega
    | succ N ih =>
      rintro ⟨k, x, n, s, a, t, l⟩ hs ⟨h1, h2, h3, h4, h5, h6⟩
      refine ⟨by omega, by omega, by omega, by omega, fun q hq => Nat.le_trans (h5 q hq) h, fits_of_all fun d hd => ?_⟩
      obtain ⟨i, hi⟩ := List.getElem?_of_mem hd
      refine ih d ?_ (fits_at h6 hi)
      have := size_mem hd
      simp only [size] at hs
      omega
  exact fun c => both (size c) c (Nat.le_refl _)

set_option maxRecDepth 10000 in
theorem open_core : ∀ (n : Nat) {m : Nat} {h : Heap} {vs : List V}, Shp Tryz.prog h n m 26 vs → ∃ c, CoIn h c vs ∧ fit m c
  | 0, m, h, vs, H => H.elim
  | n + 1, m, h, vs, H => by
    obtain ⟨n', e, hl, ms, h1, h2, h3⟩ := H.struct Tryz.underlying26
    obtain rfl : n = n' := by omega
    rw [cells26] at hl
    match vs, hl with
    | [v0, v1, v2, v3, v4, v5, v6], _ =>
      have h1' : ms.length = 7 := h1
      clear h1
      match ms, h1' with
      | [m0, m1, m2, m3, m4, m5, m6], _ =>
        have f0 := (h3 0 _ _ rfl rfl).2
        have f1 := (h3 1 _ _ rfl rfl).2
        have f2 := (h3 2 _ _ rfl rfl).2
        have f3 := (h3 3 _ _ rfl rfl).2
        have f4 := (h3 4 _ _ rfl rfl).2
        have f5 := (h3 5 _ _ rfl rfl).2
        have f6 := (h3 6 _ _ rfl rfl).2
        simp only [cells3, cells9, cells22, cells23, cells24] at f0 f1 f2 f3 f4 f5 f6
        obtain ⟨i0, e0, _⟩ := f0.int Tryz.underlying3
        obtain ⟨i1, e1, _⟩ := f1.int Tryz.underlying3
        obtain ⟨i2, e2, _⟩ := f2.int Tryz.underlying3
        obtain ⟨s, e3, hs⟩ := f3.str Tryz.underlying9
        obtain ⟨n4, w4, l4, r4, e4, S4⟩ := f4.slice Tryz.underlying22 (by rw [cells41]; decide)
        obtain ⟨n5, w5, l5, r5, e5, S5⟩ := f5.slice Tryz.underlying23 (by rw [cells3]; decide)
        obtain ⟨n6, w6, l6, r6, e6, S6⟩ := f6.slice Tryz.underlying24 (by rw [cells26]; decide)
        simp only [List.drop_zero, List.drop_succ_cons, List.take_succ_cons, List.take_zero, List.cons.injEq, and_true] at e0 e1 e2 e3 e4 e5 e6
        subst e0 e1 e2 e3 e4 e5 e6
        simp only [List.sum_cons, List.sum_nil] at h2
        rw [cells41] at S4
        rw [cells3] at S5
        rw [cells26] at S6
        obtain ⟨a, Ha, ha1, ha2⟩ := open_ats S4
        obtain ⟨t, Ht, ht1⟩ := open_ints S5
        obtain ⟨_, _, _, _, hr, us, ks, k1, k2, k3, k4⟩ := S6
        have hsum := sum_len fun i k q => (k4 i k q).1
        obtain ⟨ps, g1, g2, g3⟩ := collect (α := Co × List V) Prod.snd 7 (fun p => CoIn h p.1 p.2 ∧ fit m p.1) l6 us k1.1 (fun i hi => by
          obtain ⟨k, hk⟩ : ∃ k, ks[i]? = some k := ⟨_, List.getElem?_eq_getElem (by omega)⟩
          have hsh := (k4 i k hk).2
          obtain rfl : n = n6 + 1 := r6
          obtain ⟨c, hc1, hc2⟩ := open_core n6 hsh
          have := sum_at hk
          exact ⟨(c, _), rfl, hc1, fit.up (by omega) c hc2⟩)
        refine ⟨.mk i0 i1 i2 s a t (ps.map Prod.fst), .mk Ha Ht hr (us := ps.map Prod.snd) ?_ (by simp) ?_, ⟨by omega, by omega, by omega, by rw [List.length_map]; omega, fun q hq => by have := ha2 q hq; omega, fits_of_all ?_⟩⟩
        · rw [List.length_map, g1, ← List.flatMap_def, ← g2]
          exact k1
        · intro i c u q1 q2
          rw [List.getElem?_map] at q1 q2
          cases hp : ps[i]? with
          | none => rw [hp] at q1; cases q1
          | some p =>
            rw [hp] at q1 q2
            simp only [Option.map_some, Option.some.injEq] at q1 q2
            subst q1 q2
            exact (g3 p (List.mem_of_getElem? hp)).1
        · intro c hc
          obtain ⟨p, hp, rfl⟩ := List.mem_map.1 hc
          exact (g3 p hp).2
end Go.Proofs.YtjbiefneffiogaaGreat

namespace Go.Proofs.YtjbiefneffiogaaGreat
open Go Am
set_option linter.unusedSectionVars false
set_option linter.unusedSimpArgs false
set_option linter.unusedVariables false

theorem awake_run : Am.truly ctx 100000 11 [] = true := by kernel_rfl
theorem awake_ctr (h : Heap) : Ctr Tryz.prog 11 [] h fun x h' => x = .bool true ∧ h' = h :=
  ⟨_, _, closed_callsV (fun E x hx => by simpa only [Rel] using hx) ⟨_, Tryz.func11, by kernel_rfl⟩ (fun w hw => truly_sound (C := ctx) follows namesOk hw primOk awake_run) h, rfl, rfl⟩

/-- two parts stand in their boxes -/
structure Bx (A B : Nat) (vs us : List V) (g : Heap) : Prop where
  na : A < g.next
  nb : B < g.next
  a : g.get (pa A) = .ofL vs 0 false
  b : g.get (pa B) = .ofL us 0 false
theorem Bx.ext {A B : Nat} {vs us : List V} {g g' : Heap} (H : Bx A B vs us g) (e : Ext g g') : Bx A B vs us g' :=
  ⟨Nat.lt_of_lt_of_le H.na e.next, Nat.lt_of_lt_of_le H.nb e.next, by rw [e.get _ (old_lt H.na)]; exact H.a, by rw [e.get _ (old_lt H.nb)]; exact H.b⟩

set_option maxHeartbeats 2000000 in
theorem checks_ctr (c : Co) (hf : fit 1048576 c) (vs : List V) (h : Heap) (H : CoIn h c vs) : Ctr Tryz.prog 5 [.agg vs] h fun x h' => x = .bool true ∧ Ext h h' := by
  obtain ⟨va, vt, vl, rfl, Ha, Ht, Hl⟩ := H.open
  have H' := H
  refine c5_ctr rfl (wpK_of ?_)
  unfold c5
  have e0 : Ext h (h.new (.ofL [.int .i64 c.k, .int .i64 c.x, .int .i64 c.n, .str c.s, va, vt, vl] 0 false)) := (Ext.refl h).new _
  have g0 : (h.new (.ofL [.int .i64 c.k, .int .i64 c.x, .int .i64 c.n, .str c.s, va, vt, vl] 0 false)).get (pa h.next) = .ofL [.int .i64 c.k, .int .i64 c.x, .int .i64 c.n, .str c.s, va, vt, vl] 0 false := get_new_self _
  simp +contextual only [↓wA, wB, wZ, repeatV, RX.evs, spl, over, ones, Ex.ends, evR, oneOf, top, ↓reduceIte, Nat.reduceEqDiff, Nat.reduceLeDiff, Nat.reduceAdd, Nat.reduceSub, Nat.reduceMul, reduceCtorEq, Int.reduceEq, Int.reduceLT, Int.reduceLE, Int.reduceNeg, Int.reduceAdd, Int.reduceSub]
  refine callK_intro (large_ctr c hf _ _ (H.ext e0)) ?_
  rintro x g1 ⟨rfl, e1⟩
  have E1 := e0.trans e1
  have b1 : g1.get (pa h.next) = .ofL [.int .i64 c.k, .int .i64 c.x, .int .i64 c.n, .str c.s, va, vt, vl] 0 false := by rw [e1.get _ (old_lt (by rw [next_new]; omega))]; exact g0
  have n1 : h.next < g1.next := by have := e1.next; rw [next_new] at this; omega
  by_cases hw : 400 < wt c
  · have gw := eq_true hw
    simp +contextual only [gw, ↓wA, wB, wZ, repeatV, RX.evs, spl, over, ones, Ex.ends, evR, oneOf, top, ↓reduceIte, Nat.reduceEqDiff, Nat.reduceLeDiff, Nat.reduceAdd, Nat.reduceSub, Nat.reduceMul, reduceCtorEq, Int.reduceEq, Int.reduceLT, Int.reduceLE, Int.reduceNeg, Int.reduceAdd, Int.reduceSub]
    refine callK_intro (awake_ctr _) ?_
    rintro x g2 ⟨rfl, rfl⟩
    simp +contextual only [↓wA, wB, wZ, repeatV, RX.evs, spl, over, ones, Ex.ends, evR, oneOf, top, ↓reduceIte, Nat.reduceEqDiff, Nat.reduceLeDiff, Nat.reduceAdd, Nat.reduceSub, Nat.reduceMul, reduceCtorEq, Int.reduceEq, Int.reduceLT, Int.reduceLE, Int.reduceNeg, Int.reduceAdd, Int.reduceSub]
    exact E1
  have gw := eq_false hw
  have hw' : wt c ≤ 400 := by omega
  have hol := order_small hw'
  have hbl : (boundM c).length ≤ 1200 := by unfold boundM; split; (have := rising_len (order c); omega); simp
  have hfl : (freeM c).length ≤ 1200 := by unfold freeM; split; (have := rising_len (free c []); have := free_len c []; omega); simp
  simp +contextual only [gw, b1, ↓wA, wB, wZ, repeatV, RX.evs, spl, over, ones, Ex.ends, evR, oneOf, top, ↓reduceIte, Nat.reduceEqDiff, Nat.reduceLeDiff, Nat.reduceAdd, Nat.reduceSub, Nat.reduceMul, reduceCtorEq, Int.reduceEq, Int.reduceLT, Int.reduceLE, Int.reduceNeg, Int.reduceAdd, Int.reduceSub]
  refine callK_intro (copy_ctr (size c) c (Nat.le_refl _) hf _ g1 (H.ext E1)) ?_
  rintro x g2 ⟨us, rfl, F2, e2⟩
  have J := F2.co
  obtain ⟨ua, ut, ul, rfl, Ja, Jt, Jl⟩ := J.open
  have b2 : g2.get (pa h.next) = .ofL [.int .i64 c.k, .int .i64 c.x, .int .i64 c.n, .str c.s, va, vt, vl] 0 false := by rw [e2.get _ (old_lt n1)]; exact b1
  have n2 : h.next < g2.next := Nat.lt_of_lt_of_le n1 e2.next
  have oa := Ja.one.1
  have ot := Jt.one.1
  have ol := Jl.one.1
  have e3 : Ext g2 ((g2.new (.ofL [.int .i64 0, .int .i64 0, .int .i64 0, .str [], .nilslice, .nilslice, .nilslice] 0 false)).set (pa g2.next) (.ofL [.int .i64 c.k, .int .i64 c.x, .int .i64 c.n, .str c.s, ua, ut, ul] 0 false)) := ((Ext.refl g2).new _).set (Nat.le_refl _) _
  have B3 : Bx h.next g2.next [.int .i64 c.k, .int .i64 c.x, .int .i64 c.n, .str c.s, va, vt, vl] [.int .i64 c.k, .int .i64 c.x, .int .i64 c.n, .str c.s, ua, ut, ul] ((g2.new (.ofL [.int .i64 0, .int .i64 0, .int .i64 0, .str [], .nilslice, .nilslice, .nilslice] 0 false)).set (pa g2.next) (.ofL [.int .i64 c.k, .int .i64 c.x, .int .i64 c.n, .str c.s, ua, ut, ul] 0 false)) :=
    ⟨by rw [next_set, next_new]; omega, by rw [next_set, next_new]; omega, by rw [e3.get _ (old_lt n2)]; exact b2, by rw [get_set, if_pos rfl]⟩
  have nn2 : (g2.next = h.next) = False := eq_false (by omega)
  simp +contextual only [oa, ot, ol, nn2, b2, ↓wA, wB, wZ, repeatV, RX.evs, spl, over, ones, Ex.ends, evR, oneOf, top, ↓reduceIte, Nat.reduceEqDiff, Nat.reduceLeDiff, Nat.reduceAdd, Nat.reduceSub, Nat.reduceMul, reduceCtorEq, Int.reduceEq, Int.reduceLT, Int.reduceLE, Int.reduceNeg, Int.reduceAdd, Int.reduceSub]
  generalize ((g2.new (.ofL [.int .i64 0, .int .i64 0, .int .i64 0, .str [], .nilslice, .nilslice, .nilslice] 0 false)).set (pa g2.next) (.ofL [.int .i64 c.k, .int .i64 c.x, .int .i64 c.n, .str c.s, ua, ut, ul] 0 false)) = g3 at *
  have E3 := (E1.trans e2).trans e3
  have V3 := H.ext E3
  have U3 := J.ext e3
  refine callK_intro (Check_ctr c _ g3 U3 hw') ?_
  rintro x g4 ⟨rfl, e4⟩
  have B4 := B3.ext e4
  have E4 := E3.trans e4
  simp +contextual only [B3.a, B3.b, B4.a, B4.b, ↓wA, wB, wZ, repeatV, RX.evs, spl, over, ones, Ex.ends, evR, oneOf, top, ↓reduceIte, Nat.reduceEqDiff, Nat.reduceLeDiff, Nat.reduceAdd, Nat.reduceSub, Nat.reduceMul, reduceCtorEq, Int.reduceEq, Int.reduceLT, Int.reduceLE, Int.reduceNeg, Int.reduceAdd, Int.reduceSub]
  refine callK_intro (rCheck_ctr c _ g4 (H.ext E4) hw') ?_
  rintro x g5 ⟨rfl, e5⟩
  have B5 := B4.ext e5
  have E5 := E4.trans e5
  simp +contextual only [B3.a, B3.b, B4.a, B4.b, B5.a, B5.b, ↓wA, wB, wZ, repeatV, RX.evs, spl, over, ones, Ex.ends, evR, oneOf, top, ↓reduceIte, Nat.reduceEqDiff, Nat.reduceLeDiff, Nat.reduceAdd, Nat.reduceSub, Nat.reduceMul, reduceCtorEq, Int.reduceEq, Int.reduceLT, Int.reduceLE, Int.reduceNeg, Int.reduceAdd, Int.reduceSub]
  refine callK_intro (Size_ctr c _ g5 (J.ext (((e3).trans e4).trans e5)) hw') ?_
  rintro x g6 ⟨rfl, e6⟩
  have B6 := B5.ext e6
  have E6 := E5.trans e6
  simp +contextual only [B3.a, B3.b, B4.a, B4.b, B5.a, B5.b, B6.a, B6.b, ↓wA, wB, wZ, repeatV, RX.evs, spl, over, ones, Ex.ends, evR, oneOf, top, ↓reduceIte, Nat.reduceEqDiff, Nat.reduceLeDiff, Nat.reduceAdd, Nat.reduceSub, Nat.reduceMul, reduceCtorEq, Int.reduceEq, Int.reduceLT, Int.reduceLE, Int.reduceNeg, Int.reduceAdd, Int.reduceSub]
  refine callK_intro (rSize_ctr c _ g6 (H.ext E6) hw') ?_
  rintro x g7 ⟨rfl, e7⟩
  have B7 := B6.ext e7
  have E7 := E6.trans e7
  simp +contextual only [B3.a, B3.b, B4.a, B4.b, B5.a, B5.b, B6.a, B6.b, B7.a, B7.b, ↓wA, wB, wZ, repeatV, RX.evs, spl, over, ones, Ex.ends, evR, oneOf, top, ↓reduceIte, Nat.reduceEqDiff, Nat.reduceLeDiff, Nat.reduceAdd, Nat.reduceSub, Nat.reduceMul, reduceCtorEq, Int.reduceEq, Int.reduceLT, Int.reduceLE, Int.reduceNeg, Int.reduceAdd, Int.reduceSub]
  refine callK_intro (Bound_ctr c _ g7 (J.ext (((((e3).trans e4).trans e5).trans e6).trans e7)) hw') ?_
  rintro x g8 ⟨O8, e8⟩
  have B8 := B7.ext e8
  have E8 := E7.trans e8
  simp +contextual only [B3.a, B3.b, B4.a, B4.b, B5.a, B5.b, B6.a, B6.b, B7.a, B7.b, B8.a, B8.b, ↓wA, wB, wZ, repeatV, RX.evs, spl, over, ones, Ex.ends, evR, oneOf, top, ↓reduceIte, Nat.reduceEqDiff, Nat.reduceLeDiff, Nat.reduceAdd, Nat.reduceSub, Nat.reduceMul, reduceCtorEq, Int.reduceEq, Int.reduceLT, Int.reduceLE, Int.reduceNeg, Int.reduceAdd, Int.reduceSub]
  refine callK_intro (rBound_ctr c _ g8 (H.ext E8) hw') ?_
  rintro y g9 ⟨O9, e9⟩
  have B9 := B8.ext e9
  have E9 := E8.trans e9
  simp +contextual only [B3.a, B3.b, B4.a, B4.b, B5.a, B5.b, B6.a, B6.b, B7.a, B7.b, B8.a, B8.b, B9.a, B9.b, ↓wA, wB, wZ, repeatV, RX.evs, spl, over, ones, Ex.ends, evR, oneOf, top, ↓reduceIte, Nat.reduceEqDiff, Nat.reduceLeDiff, Nat.reduceAdd, Nat.reduceSub, Nat.reduceMul, reduceCtorEq, Int.reduceEq, Int.reduceLT, Int.reduceLE, Int.reduceNeg, Int.reduceAdd, Int.reduceSub]
  refine callK_intro (sameInts_ctr (boundM c) x y g9 (O8.v.ext e9) O9.v (by omega)) ?_
  rintro z g9' ⟨rfl, q⟩
  rw [q]
  simp +contextual only [B3.a, B3.b, B4.a, B4.b, B5.a, B5.b, B6.a, B6.b, B7.a, B7.b, B8.a, B8.b, B9.a, B9.b, ↓wA, wB, wZ, repeatV, RX.evs, spl, over, ones, Ex.ends, evR, oneOf, top, ↓reduceIte, Nat.reduceEqDiff, Nat.reduceLeDiff, Nat.reduceAdd, Nat.reduceSub, Nat.reduceMul, reduceCtorEq, Int.reduceEq, Int.reduceLT, Int.reduceLE, Int.reduceNeg, Int.reduceAdd, Int.reduceSub]
  refine callK_intro (Free_ctr c _ g9 (J.ext (((((((e3).trans e4).trans e5).trans e6).trans e7).trans e8).trans e9)) hw') ?_
  rintro x2 g10 ⟨O10, e10⟩
  have B10 := B9.ext e10
  have E10 := E9.trans e10
  simp +contextual only [B3.a, B3.b, B4.a, B4.b, B5.a, B5.b, B6.a, B6.b, B7.a, B7.b, B8.a, B8.b, B9.a, B9.b, B10.a, B10.b, ↓wA, wB, wZ, repeatV, RX.evs, spl, over, ones, Ex.ends, evR, oneOf, top, ↓reduceIte, Nat.reduceEqDiff, Nat.reduceLeDiff, Nat.reduceAdd, Nat.reduceSub, Nat.reduceMul, reduceCtorEq, Int.reduceEq, Int.reduceLT, Int.reduceLE, Int.reduceNeg, Int.reduceAdd, Int.reduceSub]
  refine callK_intro (rFree_ctr c _ g10 (H.ext E10) hw') ?_
  rintro y2 g11 ⟨O11, e11⟩
  have B11 := B10.ext e11
  have E11 := E10.trans e11
  simp +contextual only [B3.a, B3.b, B4.a, B4.b, B5.a, B5.b, B6.a, B6.b, B7.a, B7.b, B8.a, B8.b, B9.a, B9.b, B10.a, B10.b, B11.a, B11.b, ↓wA, wB, wZ, repeatV, RX.evs, spl, over, ones, Ex.ends, evR, oneOf, top, ↓reduceIte, Nat.reduceEqDiff, Nat.reduceLeDiff, Nat.reduceAdd, Nat.reduceSub, Nat.reduceMul, reduceCtorEq, Int.reduceEq, Int.reduceLT, Int.reduceLE, Int.reduceNeg, Int.reduceAdd, Int.reduceSub]
  refine callK_intro (sameInts_ctr (freeM c) x2 y2 g11 (O10.v.ext e11) O11.v (by omega)) ?_
  rintro z g11' ⟨rfl, q⟩
  rw [q]
  simp +contextual only [B3.a, B3.b, B4.a, B4.b, B5.a, B5.b, B6.a, B6.b, B7.a, B7.b, B8.a, B8.b, B9.a, B9.b, B10.a, B10.b, B11.a, B11.b, ↓wA, wB, wZ, repeatV, RX.evs, spl, over, ones, Ex.ends, evR, oneOf, top, ↓reduceIte, Nat.reduceEqDiff, Nat.reduceLeDiff, Nat.reduceAdd, Nat.reduceSub, Nat.reduceMul, reduceCtorEq, Int.reduceEq, Int.reduceLT, Int.reduceLE, Int.reduceNeg, Int.reduceAdd, Int.reduceSub]
  refine callK_intro (same_ctr (size c) c (Nat.le_refl _) hf _ _ _ (J.ext (((((((((e3).trans e4).trans e5).trans e6).trans e7).trans e8).trans e9).trans e10).trans e11)) (H.ext E11)) ?_
  rintro z g12 ⟨rfl, e12⟩
  simp +contextual only [↓wA, wB, wZ, repeatV, RX.evs, spl, over, ones, Ex.ends, evR, oneOf, top, ↓reduceIte, Nat.reduceEqDiff, Nat.reduceLeDiff, Nat.reduceAdd, Nat.reduceSub, Nat.reduceMul, reduceCtorEq, Int.reduceEq, Int.reduceLT, Int.reduceLE, Int.reduceNeg, Int.reduceAdd, Int.reduceSub]
  refine callK_intro (awake_ctr _) ?_
  rintro z g13 ⟨rfl, rfl⟩
  simp +contextual only [↓wA, wB, wZ, repeatV, RX.evs, spl, over, ones, Ex.ends, evR, oneOf, top, ↓reduceIte, Nat.reduceEqDiff, Nat.reduceLeDiff, Nat.reduceAdd, Nat.reduceSub, Nat.reduceMul, reduceCtorEq, Int.reduceEq, Int.reduceLT, Int.reduceLE, Int.reduceNeg, Int.reduceAdd, Int.reduceSub]
  exact E11.trans e12
end Go.Proofs.YtjbiefneffiogaaGreat
