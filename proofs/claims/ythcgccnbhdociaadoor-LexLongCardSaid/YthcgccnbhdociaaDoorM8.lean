/- The chapter's functions, walked by the abstract machine: plain lemmas, no condition. -/
import Derived.Test.YthcgccnbhdociaaDoorM7

namespace Go.Proofs.YthcgccnbhdociaaDoor
open Go Am
set_option linter.unusedSectionVars false
set_option linter.unusedSimpArgs false
set_option linter.unusedVariables false

/-- what the reader's functions do: a word more, or an error -/
structure ROut (s : List UInt8) (p : Nat) (b : Pa) (B : Nat) (ws : List Wd) (h : Heap) (res : Res) (h' : Heap) : Prop where
  mod : Mod (RM b B) h h'
  res : ∃ v2, match res with
     | .ok q => h'.get b = rdB s ((p + q.2.2.2 : Nat) : Int) p 0 v2 ∧ p + q.2.2.2 ≤ s.length ∧ SlO B h' 4 v2 (ws.length + 1) (wdsV (ws ++ [⟨q.1, q.2.1, p, q.2.2.1⟩]))
     | .error e => e ≠ 0 ∧ ∃ a' : Int, h'.get b = rdB s a' p e v2

def letterI (c : Int) : Bool := withinB c 97 122 || withinB c 65 90 || withinB c 48 57 || decide (c = 95) || decide (c = 39)
theorem letterI_ltr (c : UInt8) : letterI (c.toNat : Int) = ltr c := by
  unfold letterI ltr letterB withinB digitB smallB greatB
  generalize (c.toNat : Int) = x
  cases decide (97 ≤ x) <;> cases decide (x ≤ 122) <;> cases decide (65 ≤ x) <;> cases decide (x ≤ 90) <;> cases decide (48 ≤ x) <;> cases decide (x ≤ 57) <;> cases decide (x = 95) <;> cases decide (x = 39) <;> rfl

theorem take_step {p : UInt8 → Bool} {s : List UInt8} {a : Nat} (hlt : a < s.length) : (s.drop a).takeWhile p = if p s[a] then s[a] :: (s.drop (a + 1)).takeWhile p else [] := by
  rw [drop_cons hlt, List.takeWhile_cons]

/-- how far the letters go -/
def runTo (p : UInt8 → Bool) (s : List UInt8) (a : Nat) : Nat := a + ((s.drop a).takeWhile p).length
theorem runTo_end {p : UInt8 → Bool} {s : List UInt8} {a : Nat} (h : s.length ≤ a) : runTo p s a = a := by
  unfold runTo
  rw [List.drop_eq_nil_of_le h]
  rfl
theorem runTo_stop {p : UInt8 → Bool} {s : List UInt8} {a : Nat} (hlt : a < s.length) (hp : p s[a] = false) : runTo p s a = a := by
  unfold runTo
  rw [take_step hlt, hp]
  rfl
theorem runTo_step {p : UInt8 → Bool} {s : List UInt8} {a : Nat} (hlt : a < s.length) (hp : p s[a] = true) : runTo p s a = runTo p s (a + 1) := by
  unfold runTo
  rw [take_step hlt, hp]
  simp only [if_true, List.length_cons]
  omega
theorem runTo_take (p : UInt8 → Bool) (s : List UInt8) (a : Nat) : (s.drop a).take (runTo p s a - a) = (s.drop a).takeWhile p := by
  unfold runTo
  rw [show a + ((s.drop a).takeWhile p).length - a = ((s.drop a).takeWhile p).length from by omega]
  have h := List.takeWhile_append_dropWhile (p := p) (l := s.drop a)
  have h2 : List.take ((s.drop a).takeWhile p).length ((s.drop a).takeWhile p ++ (s.drop a).dropWhile p) = (s.drop a).takeWhile p := List.take_left
  rwa [h] at h2
theorem runTo_le (p : UInt8 → Bool) (s : List UInt8) (a : Nat) (h : a ≤ s.length) : runTo p s a ≤ s.length := by
  unfold runTo
  have := take_le p s a
  omega

theorem key_head {t : List UInt8} (h : keyB t = true) : headSmall t = true ∧ t.length ≤ 9 := by
  have hm : t ∈ keyList := by unfold keyB at h; simpa using h
  have : ∀ t ∈ keyList, headSmall t = true ∧ t.length ≤ 9 := by decide
  exact this t hm

def c29t : RC := match c29 with
  | .seq _ t => t
  | c => c
theorem c29_split : c29 = .seq (.block 0 (.loop c29l1)) c29t := rfl

theorem refname_tail (s : List UInt8) (p : Nat) (k : Int) (ws : List Wd) (v : V) (b : Pa) (B : Nat) (h0 h : Heap) (hm : Mod (RM b B) h0 h) (hb : h.get b = rdB s (runTo ltr s p : Nat) p 0 v) (hp : p < s.length) (hs : s.length ≤ 100000) (hS : SlO B h 4 v ws.length (wdsV ws)) (hob : Old h b) (hbB : unPa b < B) (hB : B ≤ h.next) (hw : ws.length ≤ 90000)
    (hk : (k = 3 ∧ greatB (s[p].toNat : Int) = false) ∨ (k = 4 ∧ greatB (s[p].toNat : Int) = true)) (hl : ltr s[p] = true) (r : RF) (r0 : r 0 = .ptr b 0) (Q : Ex → RF → Heap → Prop) (hQ : ∀ r' h', ROut s p b B ws h0 (nameM k (s.drop p)) h' → Q .normal r' h') :
    wpK Tryd.prog [.c c29t] .normal r h Q := by
  unfold c29t c29
  unfold rdB at hb
  have f0 : (0 ≤ (p : Int)) = True := eq_true (by omega)
  have hrle := runTo_le ltr s p (by omega)
  have hrp : p ≤ runTo ltr s p := by unfold runTo; omega
  have f1 : ((p : Int) ≤ (runTo ltr s p : Int)) = True := eq_true (by omega)
  have f2 : ((runTo ltr s p : Int) ≤ (s.length : Int)) = True := eq_true (by omega)
  simp +contextual only [r0, hb, f0, f1, f2, Int.toNat_natCast, runTo_take, ↓wA, wB, wZ, repeatV, RX.evs, spl, over, ones, Ex.ends, evR, oneOf, top, ↓reduceIte, Nat.reduceEqDiff, Nat.reduceLeDiff, Nat.reduceAdd, Nat.reduceSub, Nat.reduceMul, reduceCtorEq, Int.reduceEq, Int.reduceLT, Int.reduceLE, Int.reduceNeg, Int.reduceAdd, Int.reduceSub]
  have hlen : runTo ltr s p = p + ((s.drop p).takeWhile ltr).length := rfl
  have hn1 : nameM k (s.drop p) = if k = 3 ∧ (s.drop p).takeWhile ltr = [95] then .ok (7, 0, (s.drop p).takeWhile ltr, ((s.drop p).takeWhile ltr).length) else if k = 3 ∧ keyB ((s.drop p).takeWhile ltr) then .ok (6, 0, (s.drop p).takeWhile ltr, ((s.drop p).takeWhile ltr).length) else if 64 < ((s.drop p).takeWhile ltr).length then .error 255 else .ok (k, 0, (s.drop p).takeWhile ltr, ((s.drop p).takeWhile ltr).length) := rfl
  rw [hn1] at hQ
  have ht0 : ((s.drop p).takeWhile ltr)[0]? = some s[p] := by rw [take_step hp, hl]; rfl
  have hlpos : 1 ≤ ((s.drop p).takeWhile ltr).length := by rw [take_step hp, hl]; simp
  rw [hlen] at hb hrle
  rw [hlen]
  generalize (s.drop p).takeWhile ltr = t at *
  have hkey4 : k = 4 → keyB t = false ∧ ¬ t = [95] := by
    rintro rfl
    have hg : greatB (s[p].toNat : Int) = true := by
      rcases hk with ⟨q, _⟩ | ⟨_, q⟩
      · omega
      · exact q
    have hsm : smallB (s[p].toNat : Int) = false := by
      unfold greatB at hg
      simp only [Bool.and_eq_true, decide_eq_true_eq] at hg
      unfold smallB
      rw [show decide ((97 : Int) ≤ (s[p].toNat : Int)) = false from decide_eq_false (by omega)]
      rfl
    refine ⟨?_, ?_⟩
    · cases hq : keyB t with
      | false => rfl
      | true =>
        have := (key_head hq).1
        cases t with
        | nil => simp at hlpos
        | cons c r =>
          simp only [List.getElem?_cons_zero, Option.some.injEq] at ht0
          rw [headSmall, ht0, hsm] at this
          cases this
    · rintro rfl
      simp only [List.getElem?_cons_zero, Option.some.injEq] at ht0
      rw [← ht0] at hg
      revert hg
      decide
  have fin : ∀ (kk : Int) (h1 h2 : Heap) (v2 : V), Mod (RM b B) h0 h1 → (Mod (RM b B) h1 h2 ∧ ∃ v2, h2.get b = rdB s ((p + t.length : Nat) : Int) p 0 v2 ∧ SlO B h2 4 v2 (ws.length + 1) (wdsV (ws ++ [⟨kk, 0, p, t⟩]))) → ROut s p b B ws h0 (.ok (kk, 0, t, t.length)) h2 := by
    rintro kk h1 h2 _ hm1 ⟨hm2, v2, q1, q2⟩
    exact ⟨hm1.trans hm2, v2, q1, hrle, q2⟩
  have fin2 : ∀ (kk : Int) (h1 h2 : Heap), Mod (RM b B) h0 h1 → (Mod (RM b B) h1 h2 ∧ ∃ v2, h2.get b = rdB s ((p + t.length : Nat) : Int) p 255 v2 ∧ SlO B h2 4 v2 (ws.length + 1) (wdsV (ws ++ [⟨kk, 0, p, t⟩]))) → ROut s p b B ws h0 (.error 255) h2 := by
    rintro kk h1 h2 hm1 ⟨hm2, v2, q1, q2⟩
    exact ⟨hm1.trans hm2, v2, by decide, _, q1⟩
  by_cases hlong : 64 < t.length
  · have hlong' : (64 : Int) < (t.length : Int) := by omega
    have hnk : keyB t = false := by
      cases hq : keyB t with
      | false => rfl
      | true => have := (key_head hq).2; omega
    have hnu : ¬ t = [95] := by rintro rfl; simp at hlong
    rw [if_neg (fun q => hnu q.2), if_neg (by rw [hnk]; simp), if_pos hlong] at hQ
    have hms : Mod (RM b B) h0 (h.set b (.ofL [.str s, .int .i64 ((p + t.length : Nat) : Int), .int .i64 p, .int .i64 255, v] 0 false)) := hm.set (fun _ => .inl rfl) _
    have hSs : SlO B (h.set b (.ofL [.str s, .int .i64 ((p + t.length : Nat) : Int), .int .i64 p, .int .i64 255, v] 0 false)) 4 v ws.length (wdsV ws) := hS.mod ((Mod.refl (fun q => q = b) h).self _) (fun q hq e => by
      have := hS.base hq
      rw [show q = b from e] at this
      omega)
    have hgs : (h.set b (.ofL [.str s, .int .i64 ((p + t.length : Nat) : Int), .int .i64 p, .int .i64 255, v] 0 false)).get b = .ofL [.str s, .int .i64 ((p + t.length : Nat) : Int), .int .i64 p, .int .i64 255, v] 0 false := by rw [get_set, if_pos rfl]
    have hos : Old (h.set b (.ofL [.str s, .int .i64 ((p + t.length : Nat) : Int), .int .i64 p, .int .i64 255, v] 0 false)) b := hob
    have hns : (h.set b (.ofL [.str s, .int .i64 ((p + t.length : Nat) : Int), .int .i64 p, .int .i64 255, v] 0 false)).next = h.next := next_set _ _ _
    simp +contextual only [r0, hb, hlong', ↓wA, wB, wZ, repeatV, RX.evs, spl, over, ones, Ex.ends, evR, oneOf, top, ↓reduceIte, Nat.reduceEqDiff, Nat.reduceLeDiff, Nat.reduceAdd, Nat.reduceSub, Nat.reduceMul, reduceCtorEq, Int.reduceEq, Int.reduceLT, Int.reduceLE, Int.reduceNeg, Int.reduceAdd, Int.reduceSub]
    generalize hH : h.set b (.ofL [.str s, .int .i64 ((p + t.length : Nat) : Int), .int .i64 p, .int .i64 255, v] 0 false) = H at *
    refine callK_intro (keys_ctr _) ?_
    rintro x h1 ⟨rfl, rfl⟩
    simp +contextual only [r0, hgs, hlong', ↓wA, wB, wZ, repeatV, RX.evs, spl, over, ones, Ex.ends, evR, oneOf, top, ↓reduceIte, Nat.reduceEqDiff, Nat.reduceLeDiff, Nat.reduceAdd, Nat.reduceSub, Nat.reduceMul, reduceCtorEq, Int.reduceEq, Int.reduceLT, Int.reduceLE, Int.reduceNeg, Int.reduceAdd, Int.reduceSub]
    have hx1 : Ext H (H.new (.ofL (strsV keyList) 0 false)) := (Ext.refl H).new _
    refine callK_pure (in_pure t keyList (pa H.next) 20 _ (by decide) (by rw [get_new_self])) ?_
    have hb1 : (H.new (.ofL (strsV keyList) 0 false)).get b = rdB s ((p + t.length : Nat) : Int) p 255 v := by rw [hx1.get _ hos, hgs]; rfl
    have hm1 : Mod (RM b B) h0 (H.new (.ofL (strsV keyList) 0 false)) := hms.trans (hx1.mod _)
    have hkb : keyList.contains t = keyB t := rfl
    rw [hkb, hnk]
    have g0 : ((0 : Int) < (t.length : Int)) = True := eq_true (by omega)
    have z0 : ((0 : Int) ≤ 0) = True := eq_true (by omega)
    simp +contextual only [r0, hgs, hlong', hnu, g0, z0, ht0, Int.reduceToNat, ↓wA, wB, wZ, repeatV, RX.evs, spl, over, ones, Ex.ends, evR, oneOf, top, ↓reduceIte, Nat.reduceEqDiff, Nat.reduceLeDiff, Nat.reduceAdd, Nat.reduceSub, Nat.reduceMul, reduceCtorEq, Int.reduceEq, Int.reduceLT, Int.reduceLE, Int.reduceNeg, Int.reduceAdd, Int.reduceSub]
    refine callK_pure (within_pure _ _ _ _) ?_
    rw [show withinB (s[p].toNat : Int) 65 90 = greatB (s[p].toNat : Int) from rfl]
    rcases hk with ⟨rfl, hg⟩ | ⟨rfl, hg⟩
    · rw [hg]
      simp +contextual only [r0, hgs, hlong', hnu, g0, z0, ht0, ↓wA, wB, wZ, repeatV, RX.evs, spl, over, ones, Ex.ends, evR, oneOf, top, ↓reduceIte, Nat.reduceEqDiff, Nat.reduceLeDiff, Nat.reduceAdd, Nat.reduceSub, Nat.reduceMul, reduceCtorEq, Int.reduceEq, Int.reduceLT, Int.reduceLE, Int.reduceNeg, Int.reduceAdd, Int.reduceSub]
      refine callK_intro (add_ctr s _ p 255 3 0 t ws v b B _ hb1 (hSs.ext hx1) (hx1.old hos) hbB (by rw [next_new]; omega) (by omega)) ?_
      rintro x h2 hq
      simp +contextual only [r0, ↓wA, wB, wZ, repeatV, RX.evs, spl, over, ones, Ex.ends, evR, oneOf, top, ↓reduceIte, Nat.reduceEqDiff, Nat.reduceLeDiff, Nat.reduceAdd, Nat.reduceSub, Nat.reduceMul, reduceCtorEq, Int.reduceEq, Int.reduceLT, Int.reduceLE, Int.reduceNeg, Int.reduceAdd, Int.reduceSub]
      exact hQ _ _ (fin2 3 _ _ hm1 hq)
    · rw [hg]
      simp +contextual only [r0, hgs, hlong', hnu, g0, z0, ht0, ↓wA, wB, wZ, repeatV, RX.evs, spl, over, ones, Ex.ends, evR, oneOf, top, ↓reduceIte, Nat.reduceEqDiff, Nat.reduceLeDiff, Nat.reduceAdd, Nat.reduceSub, Nat.reduceMul, reduceCtorEq, Int.reduceEq, Int.reduceLT, Int.reduceLE, Int.reduceNeg, Int.reduceAdd, Int.reduceSub]
      refine callK_intro (add_ctr s _ p 255 4 0 t ws v b B _ hb1 (hSs.ext hx1) (hx1.old hos) hbB (by rw [next_new]; omega) (by omega)) ?_
      rintro x h2 hq
      simp +contextual only [r0, ↓wA, wB, wZ, repeatV, RX.evs, spl, over, ones, Ex.ends, evR, oneOf, top, ↓reduceIte, Nat.reduceEqDiff, Nat.reduceLeDiff, Nat.reduceAdd, Nat.reduceSub, Nat.reduceMul, reduceCtorEq, Int.reduceEq, Int.reduceLT, Int.reduceLE, Int.reduceNeg, Int.reduceAdd, Int.reduceSub]
      exact hQ _ _ (fin2 4 _ _ hm1 hq)
  · have hlong' : ¬ (64 : Int) < (t.length : Int) := by omega
    simp +contextual only [r0, hb, hlong', ↓wA, wB, wZ, repeatV, RX.evs, spl, over, ones, Ex.ends, evR, oneOf, top, ↓reduceIte, Nat.reduceEqDiff, Nat.reduceLeDiff, Nat.reduceAdd, Nat.reduceSub, Nat.reduceMul, reduceCtorEq, Int.reduceEq, Int.reduceLT, Int.reduceLE, Int.reduceNeg, Int.reduceAdd, Int.reduceSub]
    refine callK_intro (keys_ctr _) ?_
    rintro x h1 ⟨rfl, rfl⟩
    simp +contextual only [r0, hb, hlong', ↓wA, wB, wZ, repeatV, RX.evs, spl, over, ones, Ex.ends, evR, oneOf, top, ↓reduceIte, Nat.reduceEqDiff, Nat.reduceLeDiff, Nat.reduceAdd, Nat.reduceSub, Nat.reduceMul, reduceCtorEq, Int.reduceEq, Int.reduceLT, Int.reduceLE, Int.reduceNeg, Int.reduceAdd, Int.reduceSub]
    have hx1 : Ext h (h.new (.ofL (strsV keyList) 0 false)) := (Ext.refl h).new _
    refine callK_pure (in_pure t keyList (pa h.next) 20 _ (by decide) (by rw [get_new_self])) ?_
    have hb1 : (h.new (.ofL (strsV keyList) 0 false)).get b = rdB s ((p + t.length : Nat) : Int) p 0 v := by rw [hx1.get _ hob, hb]; rfl
    have hm1 : Mod (RM b B) h0 (h.new (.ofL (strsV keyList) 0 false)) := hm.trans (hx1.mod _)
    have hkb : keyList.contains t = keyB t := rfl
    rw [hkb]
    cases hkey : keyB t with
    | true =>
      have hk3 : k = 3 := by
        rcases hk with ⟨q, _⟩ | ⟨q, _⟩
        · exact q
        · rw [(hkey4 q).1] at hkey; cases hkey
      have hnu : ¬ t = [95] := by rintro rfl; revert hkey; decide
      rw [if_neg (fun q => hnu q.2), if_pos ⟨hk3, hkey⟩] at hQ
      simp +contextual only [r0, hb, hlong', ↓wA, wB, wZ, repeatV, RX.evs, spl, over, ones, Ex.ends, evR, oneOf, top, ↓reduceIte, Nat.reduceEqDiff, Nat.reduceLeDiff, Nat.reduceAdd, Nat.reduceSub, Nat.reduceMul, reduceCtorEq, Int.reduceEq, Int.reduceLT, Int.reduceLE, Int.reduceNeg, Int.reduceAdd, Int.reduceSub]
      refine callK_intro (add_ctr s _ p 0 6 0 t ws v b B _ hb1 (hS.ext hx1) (hx1.old hob) hbB (by rw [next_new]; omega) (by omega)) ?_
      rintro x h2 hq
      simp +contextual only [r0, ↓wA, wB, wZ, repeatV, RX.evs, spl, over, ones, Ex.ends, evR, oneOf, top, ↓reduceIte, Nat.reduceEqDiff, Nat.reduceLeDiff, Nat.reduceAdd, Nat.reduceSub, Nat.reduceMul, reduceCtorEq, Int.reduceEq, Int.reduceLT, Int.reduceLE, Int.reduceNeg, Int.reduceAdd, Int.reduceSub]
      exact hQ _ _ (fin 6 _ _ v hm1 hq)
    | false =>
      by_cases hu : t = [95]
      · have hk3 : k = 3 := by
          rcases hk with ⟨q, _⟩ | ⟨q, _⟩
          · exact q
          · exact absurd hu (hkey4 q).2
        rw [if_pos ⟨hk3, hu⟩] at hQ
        have hu' := eq_true hu
        simp +contextual only [r0, hb, hlong', hu', ↓wA, wB, wZ, repeatV, RX.evs, spl, over, ones, Ex.ends, evR, oneOf, top, ↓reduceIte, Nat.reduceEqDiff, Nat.reduceLeDiff, Nat.reduceAdd, Nat.reduceSub, Nat.reduceMul, reduceCtorEq, Int.reduceEq, Int.reduceLT, Int.reduceLE, Int.reduceNeg, Int.reduceAdd, Int.reduceSub]
        refine callK_intro (add_ctr s _ p 0 7 0 t ws v b B _ hb1 (hS.ext hx1) (hx1.old hob) hbB (by rw [next_new]; omega) (by omega)) ?_
        rintro x h2 hq
        simp +contextual only [r0, ↓wA, wB, wZ, repeatV, RX.evs, spl, over, ones, Ex.ends, evR, oneOf, top, ↓reduceIte, Nat.reduceEqDiff, Nat.reduceLeDiff, Nat.reduceAdd, Nat.reduceSub, Nat.reduceMul, reduceCtorEq, Int.reduceEq, Int.reduceLT, Int.reduceLE, Int.reduceNeg, Int.reduceAdd, Int.reduceSub]
        exact hQ _ _ (fin 7 _ _ v hm1 hq)
      · rw [if_neg (fun q => hu q.2), if_neg (by rw [hkey]; simp), if_neg hlong] at hQ
        have g0 : ((0 : Int) < (t.length : Int)) = True := eq_true (by omega)
        have z0 : ((0 : Int) ≤ 0) = True := eq_true (by omega)
        simp +contextual only [r0, hb, hlong', hu, g0, z0, ht0, Int.reduceToNat, ↓wA, wB, wZ, repeatV, RX.evs, spl, over, ones, Ex.ends, evR, oneOf, top, ↓reduceIte, Nat.reduceEqDiff, Nat.reduceLeDiff, Nat.reduceAdd, Nat.reduceSub, Nat.reduceMul, reduceCtorEq, Int.reduceEq, Int.reduceLT, Int.reduceLE, Int.reduceNeg, Int.reduceAdd, Int.reduceSub]
        refine callK_pure (within_pure _ _ _ _) ?_
        rw [show withinB (s[p].toNat : Int) 65 90 = greatB (s[p].toNat : Int) from rfl]
        rcases hk with ⟨rfl, hg⟩ | ⟨rfl, hg⟩
        · rw [hg]
          simp +contextual only [r0, hb, hlong', hu, g0, z0, ht0, ↓wA, wB, wZ, repeatV, RX.evs, spl, over, ones, Ex.ends, evR, oneOf, top, ↓reduceIte, Nat.reduceEqDiff, Nat.reduceLeDiff, Nat.reduceAdd, Nat.reduceSub, Nat.reduceMul, reduceCtorEq, Int.reduceEq, Int.reduceLT, Int.reduceLE, Int.reduceNeg, Int.reduceAdd, Int.reduceSub]
          refine callK_intro (add_ctr s _ p 0 3 0 t ws v b B _ hb1 (hS.ext hx1) (hx1.old hob) hbB (by rw [next_new]; omega) (by omega)) ?_
          rintro x h2 hq
          simp +contextual only [r0, ↓wA, wB, wZ, repeatV, RX.evs, spl, over, ones, Ex.ends, evR, oneOf, top, ↓reduceIte, Nat.reduceEqDiff, Nat.reduceLeDiff, Nat.reduceAdd, Nat.reduceSub, Nat.reduceMul, reduceCtorEq, Int.reduceEq, Int.reduceLT, Int.reduceLE, Int.reduceNeg, Int.reduceAdd, Int.reduceSub]
          exact hQ _ _ (fin 3 _ _ v hm1 hq)
        · rw [hg]
          simp +contextual only [r0, hb, hlong', hu, g0, z0, ht0, ↓wA, wB, wZ, repeatV, RX.evs, spl, over, ones, Ex.ends, evR, oneOf, top, ↓reduceIte, Nat.reduceEqDiff, Nat.reduceLeDiff, Nat.reduceAdd, Nat.reduceSub, Nat.reduceMul, reduceCtorEq, Int.reduceEq, Int.reduceLT, Int.reduceLE, Int.reduceNeg, Int.reduceAdd, Int.reduceSub]
          refine callK_intro (add_ctr s _ p 0 4 0 t ws v b B _ hb1 (hS.ext hx1) (hx1.old hob) hbB (by rw [next_new]; omega) (by omega)) ?_
          rintro x h2 hq
          simp +contextual only [r0, ↓wA, wB, wZ, repeatV, RX.evs, spl, over, ones, Ex.ends, evR, oneOf, top, ↓reduceIte, Nat.reduceEqDiff, Nat.reduceLeDiff, Nat.reduceAdd, Nat.reduceSub, Nat.reduceMul, reduceCtorEq, Int.reduceEq, Int.reduceLT, Int.reduceLE, Int.reduceNeg, Int.reduceAdd, Int.reduceSub]
          exact hQ _ _ (fin 4 _ _ v hm1 hq)

theorem refname_ctr (s : List UInt8) (p : Nat) (k : Int) (ws : List Wd) (v : V) (b : Pa) (B : Nat) (h : Heap) (hb : h.get b = rdB s p p 0 v) (hp : p < s.length) (hs : s.length ≤ 100000) (hS : SlO B h 4 v ws.length (wdsV ws)) (hob : Old h b) (hbB : unPa b < B) (hB : B ≤ h.next) (hw : ws.length ≤ 90000)
    (hk : (k = 3 ∧ greatB (s[p].toNat : Int) = false) ∨ (k = 4 ∧ greatB (s[p].toNat : Int) = true)) (hl : ltr s[p] = true) :
    Ctr Tryd.prog 29 [.ptr b 0] h fun x h' => ROut s p b B ws h (nameM k (s.drop p)) h' := by
  refine c29_ctr rfl (wpK_of ?_)
  rw [c29_split]
  unfold rdB at hb
  simp +contextual only [↓wA, wB, wZ, repeatV, RX.evs, spl, over, ones, Ex.ends, evR, oneOf, top, ↓reduceIte, Nat.reduceEqDiff, Nat.reduceLeDiff, Nat.reduceAdd, Nat.reduceSub, Nat.reduceMul, reduceCtorEq, Int.reduceEq, Int.reduceLT, Int.reduceLE, Int.reduceNeg, Int.reduceAdd, Int.reduceSub]
  refine loopK_intro (fun r h' => r 0 = .ptr b 0 ∧ Mod (RM b B) h h' ∧ SlO B h' 4 v ws.length (wdsV ws) ∧ ∃ (a : Nat), h'.get b = .ofL [.str s, .int .i64 a, .int .i64 p, .int .i64 0, v] 0 false ∧ p ≤ a ∧ a ≤ s.length ∧ runTo ltr s p = runTo ltr s a) (fun r h' => s.length - ((ld1B (h'.get b) 1).getD .bad).toN) ?_ ?_
  · exact ⟨by simp only [↓wA, wB, wZ, repeatV, RX.evs, spl, over, ones, Ex.ends, evR, oneOf, top, ↓reduceIte, Nat.reduceEqDiff, Nat.reduceLeDiff, Nat.reduceAdd, Nat.reduceSub, Nat.reduceMul, reduceCtorEq, Int.reduceEq, Int.reduceLT, Int.reduceLE, Int.reduceNeg, Int.reduceAdd, Int.reduceSub], Mod.refl _ _, hS, p, hb, Nat.le_refl _, by omega, rfl⟩
  · rintro r h' ⟨r0, hm, hS', a, hg, k0, k1, hok⟩
    unfold c29l1
    have hnext := hm.next
    by_cases hlt : a < s.length
    · have g0 : ((a : Int) < (s.length : Int)) = True := eq_true (by omega)
      have g1 : (0 ≤ (a : Int)) = True := eq_true (by omega)
      simp +contextual (maxSteps := 1000000) only [r0, hg, g0, g1, List.getElem?_eq_getElem hlt, Int.toNat_natCast, ↓wA, wB, wZ, repeatV, RX.evs, spl, over, ones, Ex.ends, evR, oneOf, top, ↓reduceIte, Nat.reduceEqDiff, Nat.reduceLeDiff, Nat.reduceAdd, Nat.reduceSub, Nat.reduceMul, reduceCtorEq, Int.reduceEq, Int.reduceLT, Int.reduceLE, Int.reduceNeg, Int.reduceAdd, Int.reduceSub]
      refine callK_pure (Letter_pure _ _) ?_
      rw [show (withinB (s[a].toNat : Int) 97 122 || withinB (s[a].toNat : Int) 65 90 || withinB (s[a].toNat : Int) 48 57 || decide ((s[a].toNat : Int) = 95) || decide ((s[a].toNat : Int) = 39)) = ltr s[a] from letterI_ltr _]
      cases hc : ltr s[a] with
      | true =>
        rw [runTo_step hlt hc] at hok
        have w1 : IntKind.i64.wrap ((a : Int) + 1) = ((a + 1 : Nat) : Int) := by rw [wrap_i64 (by omega) (by omega)]; rfl
        simp +contextual (maxSteps := 1000000) only [r0, hg, g0, g1, w1, List.getElem?_eq_getElem hlt, Int.toNat_natCast, ↓wA, wB, wZ, repeatV, RX.evs, spl, over, ones, Ex.ends, evR, oneOf, top, ↓reduceIte, Nat.reduceEqDiff, Nat.reduceLeDiff, Nat.reduceAdd, Nat.reduceSub, Nat.reduceMul, reduceCtorEq, Int.reduceEq, Int.reduceLT, Int.reduceLE, Int.reduceNeg, Int.reduceAdd, Int.reduceSub]
        refine ⟨⟨hm.set (fun _ => .inl rfl) _, ?_, a + 1, rfl, by omega, by omega, hok⟩, by omega⟩
        exact hS'.mod ((Mod.refl (fun q => q = b) h').self _) (fun q hq e => by
          have := hS'.base hq
          rw [show q = b from e] at this
          omega)
      | false =>
        rw [runTo_stop hlt hc] at hok
        simp +contextual (maxSteps := 1000000) only [r0, hg, g0, g1, List.getElem?_eq_getElem hlt, Int.toNat_natCast, ↓wA, wB, wZ, repeatV, RX.evs, spl, over, ones, Ex.ends, evR, oneOf, top, ↓reduceIte, Nat.reduceEqDiff, Nat.reduceLeDiff, Nat.reduceAdd, Nat.reduceSub, Nat.reduceMul, reduceCtorEq, Int.reduceEq, Int.reduceLT, Int.reduceLE, Int.reduceNeg, Int.reduceAdd, Int.reduceSub]
        exact refname_tail s p k ws v b B h h' hm (by rw [hok]; exact hg) hp hs hS' (hm.old hob) hbB (by omega) hw hk hl _ (by simp only [r0, ↓wA, wB, wZ, repeatV, RX.evs, spl, over, ones, Ex.ends, evR, oneOf, top, ↓reduceIte, Nat.reduceEqDiff, Nat.reduceLeDiff, Nat.reduceAdd, Nat.reduceSub, Nat.reduceMul, reduceCtorEq, Int.reduceEq, Int.reduceLT, Int.reduceLE, Int.reduceNeg, Int.reduceAdd, Int.reduceSub]) _ (fun _ _ hr => ⟨trivial, hr⟩)
    · have g0 : ((a : Int) < (s.length : Int)) = False := eq_false (by omega)
      rw [runTo_end (a := a) (by omega)] at hok
      simp +contextual (maxSteps := 1000000) only [r0, hg, g0, ↓wA, wB, wZ, repeatV, RX.evs, spl, over, ones, Ex.ends, evR, oneOf, top, ↓reduceIte, Nat.reduceEqDiff, Nat.reduceLeDiff, Nat.reduceAdd, Nat.reduceSub, Nat.reduceMul, reduceCtorEq, Int.reduceEq, Int.reduceLT, Int.reduceLE, Int.reduceNeg, Int.reduceAdd, Int.reduceSub]
      exact refname_tail s p k ws v b B h h' hm (by rw [hok]; exact hg) hp hs hS' (hm.old hob) hbB (by omega) hw hk hl _ (by simp only [r0, ↓wA, wB, wZ, repeatV, RX.evs, spl, over, ones, Ex.ends, evR, oneOf, top, ↓reduceIte, Nat.reduceEqDiff, Nat.reduceLeDiff, Nat.reduceAdd, Nat.reduceSub, Nat.reduceMul, reduceCtorEq, Int.reduceEq, Int.reduceLT, Int.reduceLE, Int.reduceNeg, Int.reduceAdd, Int.reduceSub]) _ (fun _ _ hr => ⟨trivial, hr⟩)
end Go.Proofs.YthcgccnbhdociaaDoor

namespace Go.Proofs.YthcgccnbhdociaaDoor
open Go Am
set_option linter.unusedSectionVars false
set_option linter.unusedSimpArgs false
set_option linter.unusedVariables false

theorem slo_setB {B : Nat} {h : Heap} {v : V} {n : Nat} {us : List V} {b : Pa} (hS : SlO B h 4 v n us) (hbB : unPa b < B) (k : Blk) : SlO B (h.set b k) 4 v n us :=
  hS.mod ((Mod.refl (fun q => q = b) h).self _) (fun q hq e => by
    have := hS.base hq
    rw [show q = b from e] at this
    omega)

def varM (r : List UInt8) : Res := if headSmall r then (nameM 5 r).map fun q => (q.1, q.2.1, q.2.2.1, q.2.2.2 + 1) else .error 251
def c31t : RC := match c31 with
  | .seq _ (.seq _ (.seq _ t)) => t
  | c => c
theorem c31_split : ∃ x y, c31 = .seq x (.seq y (.seq (.block 0 (.loop c31l1)) c31t)) := ⟨_, _, rfl⟩

theorem refvar_tail (s : List UInt8) (p : Nat) (ws : List Wd) (v : V) (b : Pa) (B : Nat) (h0 h : Heap) (hm : Mod (RM b B) h0 h) (hb : h.get b = rdB s (runTo ltr s (p + 1) : Nat) p 0 v) (hp : p < s.length) (hs : s.length ≤ 100000) (hS : SlO B h 4 v ws.length (wdsV ws)) (hob : Old h b) (hbB : unPa b < B) (hB : B ≤ h.next) (hw : ws.length ≤ 90000)
    (r : RF) (r0 : r 0 = .ptr b 0) (r2 : r 2 = .int .i64 ((p + 1 : Nat) : Int)) (Q : Ex → RF → Heap → Prop) (hQ : ∀ e r' h', (e = .normal ∨ e = .ret) → ROut s p b B ws h0 (varM (s.drop (p + 1))) h' → Q e r' h') :
    wpK Tryd.prog [.c c31t] .normal r h Q := by
  unfold c31t c31
  unfold rdB at hb
  have f0 : (0 ≤ ((p + 1 : Nat) : Int)) = True := eq_true (by omega)
  have hrle := runTo_le ltr s (p + 1) (by omega)
  have hrp : p + 1 ≤ runTo ltr s (p + 1) := by unfold runTo; omega
  have f1 : (((p + 1 : Nat) : Int) ≤ (runTo ltr s (p + 1) : Int)) = True := eq_true (by omega)
  have f2 : ((runTo ltr s (p + 1) : Int) ≤ (s.length : Int)) = True := eq_true (by omega)
  simp +contextual only [r0, r2, hb, f0, f1, f2, Int.toNat_natCast, runTo_take, ↓wA, wB, wZ, repeatV, RX.evs, spl, over, ones, Ex.ends, evR, oneOf, top, ↓reduceIte, Nat.reduceEqDiff, Nat.reduceLeDiff, Nat.reduceAdd, Nat.reduceSub, Nat.reduceMul, reduceCtorEq, Int.reduceEq, Int.reduceLT, Int.reduceLE, Int.reduceNeg, Int.reduceAdd, Int.reduceSub]
  have hlen : runTo ltr s (p + 1) = p + 1 + ((s.drop (p + 1)).takeWhile ltr).length := rfl
  have hn1 : nameM 5 (s.drop (p + 1)) = if 64 < ((s.drop (p + 1)).takeWhile ltr).length then .error 255 else .ok (5, 0, (s.drop (p + 1)).takeWhile ltr, ((s.drop (p + 1)).takeWhile ltr).length) := by
    unfold nameM
    simp only
    rw [if_neg (by simp), if_neg (by simp)]
  have hhead : headSmall (s.drop (p + 1)) = headSmall ((s.drop (p + 1)).takeWhile ltr) := by
    cases hR : s.drop (p + 1) with
    | nil => rfl
    | cons c R =>
      simp only [List.takeWhile_cons]
      cases hc : ltr c with
      | true => rfl
      | false =>
        simp only [Bool.false_eq_true, if_false, headSmall]
        cases hq : smallB c.toNat with
        | false => rfl
        | true => rw [small_ltr hq] at hc; cases hc
  have hv : varM (s.drop (p + 1)) = if headSmall ((s.drop (p + 1)).takeWhile ltr) then ((if 64 < ((s.drop (p + 1)).takeWhile ltr).length then .error 255 else .ok (5, 0, (s.drop (p + 1)).takeWhile ltr, ((s.drop (p + 1)).takeWhile ltr).length) : Res).map fun q => (q.1, q.2.1, q.2.2.1, q.2.2.2 + 1)) else .error 251 := by
    unfold varM
    rw [hhead, hn1]
  rw [hv] at hQ
  rw [hlen] at hb hrle
  rw [hlen]
  generalize (s.drop (p + 1)).takeWhile ltr = t at *
  have bad : ROut s p b B ws h0 (.error 251) (h.set b (.ofL [.str s, .int .i64 ((p + 1 + t.length : Nat) : Int), .int .i64 p, .int .i64 251, v] 0 false)) :=
    ⟨hm.set (fun _ => .inl rfl) _, v, by decide, ((p + 1 + t.length : Nat) : Int), by rw [get_set, if_pos rfl]; rfl⟩
  match t, hQ, bad, hb, hrle with
  | [], hQ, bad, hb, hrle =>
    rw [show headSmall [] = false from rfl, if_neg Bool.false_ne_true] at hQ
    simp +contextual only [r0, hb, ↓wA, wB, wZ, repeatV, RX.evs, spl, over, ones, Ex.ends, evR, oneOf, top, ↓reduceIte, Nat.reduceEqDiff, Nat.reduceLeDiff, Nat.reduceAdd, Nat.reduceSub, Nat.reduceMul, reduceCtorEq, Int.reduceEq, Int.reduceLT, Int.reduceLE, Int.reduceNeg, Int.reduceAdd, Int.reduceSub]
    exact hQ _ _ _ (.inr rfl) bad
  | c :: t', hQ, bad, hb, hrle =>
    have hcn : (c :: t' = []) = False := eq_false (by simp)
    simp only [List.length_cons] at hb hrle bad
    have g0 : ((0 : Int) < ((t'.length + 1 : Nat) : Int)) = True := eq_true (by omega)
    have z0 : ((0 : Int) ≤ 0) = True := eq_true (by omega)
    simp +contextual only [r0, hb, hcn, g0, z0, Int.reduceToNat, ↓wA, wB, wZ, repeatV, RX.evs, spl, over, ones, Ex.ends, evR, oneOf, top, ↓reduceIte, Nat.reduceEqDiff, Nat.reduceLeDiff, Nat.reduceAdd, Nat.reduceSub, Nat.reduceMul, reduceCtorEq, Int.reduceEq, Int.reduceLT, Int.reduceLE, Int.reduceNeg, Int.reduceAdd, Int.reduceSub]
    refine callK_pure (within_pure _ _ _ _) ?_
    rw [show withinB (c.toNat : Int) 97 122 = headSmall (c :: t') from rfl]
    cases hsm : headSmall (c :: t') with
    | false =>
      rw [hsm, if_neg Bool.false_ne_true] at hQ
      simp +contextual only [r0, hb, hcn, g0, z0, Int.reduceToNat, ↓wA, wB, wZ, repeatV, RX.evs, spl, over, ones, Ex.ends, evR, oneOf, top, ↓reduceIte, Nat.reduceEqDiff, Nat.reduceLeDiff, Nat.reduceAdd, Nat.reduceSub, Nat.reduceMul, reduceCtorEq, Int.reduceEq, Int.reduceLT, Int.reduceLE, Int.reduceNeg, Int.reduceAdd, Int.reduceSub]
      exact hQ _ _ _ (.inr rfl) bad
    | true =>
      rw [hsm, if_pos rfl] at hQ
      simp only [List.length_cons] at hQ
      by_cases hl : 64 < t'.length + 1
      · have hl' : ((64 : Int) < ((t'.length + 1 : Nat) : Int)) = True := eq_true (by omega)
        rw [if_pos hl] at hQ
        simp +contextual only [r0, hb, hcn, g0, z0, hl', Int.reduceToNat, ↓wA, wB, wZ, repeatV, RX.evs, spl, over, ones, Ex.ends, evR, oneOf, top, ↓reduceIte, Nat.reduceEqDiff, Nat.reduceLeDiff, Nat.reduceAdd, Nat.reduceSub, Nat.reduceMul, reduceCtorEq, Int.reduceEq, Int.reduceLT, Int.reduceLE, Int.reduceNeg, Int.reduceAdd, Int.reduceSub]
        refine callK_intro (add_ctr s (p + 1 + (t'.length + 1)) p 255 5 0 (c :: t') ws v b B _ (by rw [get_set, if_pos rfl]; rfl) (slo_setB hS hbB _) hob hbB (by rw [next_set]; omega) (by omega)) ?_
        rintro x h2 ⟨hm2, v2, q1, q2⟩
        simp +contextual only [r0, ↓wA, wB, wZ, repeatV, RX.evs, spl, over, ones, Ex.ends, evR, oneOf, top, ↓reduceIte, Nat.reduceEqDiff, Nat.reduceLeDiff, Nat.reduceAdd, Nat.reduceSub, Nat.reduceMul, reduceCtorEq, Int.reduceEq, Int.reduceLT, Int.reduceLE, Int.reduceNeg, Int.reduceAdd, Int.reduceSub]
        exact hQ _ _ _ (.inl rfl) ⟨(hm.set (fun _ => .inl rfl) _).trans hm2, v2, by decide, _, q1⟩
      · have hl' : ((64 : Int) < ((t'.length + 1 : Nat) : Int)) = False := eq_false (by omega)
        rw [if_neg hl] at hQ
        simp +contextual only [r0, hb, hcn, g0, z0, hl', Int.reduceToNat, ↓wA, wB, wZ, repeatV, RX.evs, spl, over, ones, Ex.ends, evR, oneOf, top, ↓reduceIte, Nat.reduceEqDiff, Nat.reduceLeDiff, Nat.reduceAdd, Nat.reduceSub, Nat.reduceMul, reduceCtorEq, Int.reduceEq, Int.reduceLT, Int.reduceLE, Int.reduceNeg, Int.reduceAdd, Int.reduceSub]
        refine callK_intro (add_ctr s (p + 1 + (t'.length + 1)) p 0 5 0 (c :: t') ws v b B _ hb hS hob hbB (by omega) (by omega)) ?_
        rintro x h2 ⟨hm2, v2, q1, q2⟩
        simp +contextual only [r0, ↓wA, wB, wZ, repeatV, RX.evs, spl, over, ones, Ex.ends, evR, oneOf, top, ↓reduceIte, Nat.reduceEqDiff, Nat.reduceLeDiff, Nat.reduceAdd, Nat.reduceSub, Nat.reduceMul, reduceCtorEq, Int.reduceEq, Int.reduceLT, Int.reduceLE, Int.reduceNeg, Int.reduceAdd, Int.reduceSub]
        refine hQ _ _ _ (.inl rfl) ⟨hm.trans hm2, v2, ?_, ?_, q2⟩
        · rw [q1]
          show rdB s ((p + 1 + (t'.length + 1) : Nat) : Int) p 0 v2 = rdB s ((p + (t'.length + 1 + 1) : Nat) : Int) p 0 v2
          rw [show p + 1 + (t'.length + 1) = p + (t'.length + 1 + 1) from by omega]
        · show p + (t'.length + 1 + 1) ≤ s.length
          omega

theorem refvar_ctr (s : List UInt8) (p : Nat) (ws : List Wd) (v : V) (b : Pa) (B : Nat) (h : Heap) (hb : h.get b = rdB s p p 0 v) (hp : p < s.length) (hs : s.length ≤ 100000) (hS : SlO B h 4 v ws.length (wdsV ws)) (hob : Old h b) (hbB : unPa b < B) (hB : B ≤ h.next) (hw : ws.length ≤ 90000) :
    Ctr Tryd.prog 31 [.ptr b 0] h fun x h' => ROut s p b B ws h (varM (s.drop (p + 1))) h' := by
  refine c31_ctr rfl (wpK_of ?_)
  have hsp : c31 = .seq (match c31 with | .seq x _ => x | c => c) (.seq (match c31 with | .seq _ (.seq y _) => y | c => c) (.seq (.block 0 (.loop c31l1)) c31t)) := rfl
  rw [hsp]
  unfold c31
  unfold rdB at hb
  have w1 : IntKind.i64.wrap ((p : Int) + 1) = ((p + 1 : Nat) : Int) := by rw [wrap_i64 (by omega) (by omega)]; rfl
  simp +contextual only [hb, w1, ↓wA, wB, wZ, repeatV, RX.evs, spl, over, ones, Ex.ends, evR, oneOf, top, ↓reduceIte, Nat.reduceEqDiff, Nat.reduceLeDiff, Nat.reduceAdd, Nat.reduceSub, Nat.reduceMul, reduceCtorEq, Int.reduceEq, Int.reduceLT, Int.reduceLE, Int.reduceNeg, Int.reduceAdd, Int.reduceSub]
  refine loopK_intro (fun r h' => r 0 = .ptr b 0 ∧ r 2 = .int .i64 ((p + 1 : Nat) : Int) ∧ Mod (RM b B) h h' ∧ SlO B h' 4 v ws.length (wdsV ws) ∧ ∃ (a : Nat), h'.get b = .ofL [.str s, .int .i64 a, .int .i64 p, .int .i64 0, v] 0 false ∧ p + 1 ≤ a ∧ a ≤ s.length ∧ runTo ltr s (p + 1) = runTo ltr s a) (fun r h' => s.length - ((ld1B (h'.get b) 1).getD .bad).toN) ?_ ?_
  · exact ⟨by simp only [↓wA, wB, wZ, repeatV, RX.evs, spl, over, ones, Ex.ends, evR, oneOf, top, ↓reduceIte, Nat.reduceEqDiff, Nat.reduceLeDiff, Nat.reduceAdd, Nat.reduceSub, Nat.reduceMul, reduceCtorEq, Int.reduceEq, Int.reduceLT, Int.reduceLE, Int.reduceNeg, Int.reduceAdd, Int.reduceSub], by simp only [↓wA, wB, wZ, repeatV, RX.evs, spl, over, ones, Ex.ends, evR, oneOf, top, ↓reduceIte, Nat.reduceEqDiff, Nat.reduceLeDiff, Nat.reduceAdd, Nat.reduceSub, Nat.reduceMul, reduceCtorEq, Int.reduceEq, Int.reduceLT, Int.reduceLE, Int.reduceNeg, Int.reduceAdd, Int.reduceSub], (Mod.refl _ _).set (fun _ => .inl rfl) _, slo_setB hS hbB _, p + 1, by rw [get_set, if_pos rfl], Nat.le_refl _, by omega, rfl⟩
  · rintro r h' ⟨r0, r2, hm, hS', a, hg, k0, k1, hok⟩
    unfold c31l1
    have hnext := hm.next
    by_cases hlt : a < s.length
    · have g0 : ((a : Int) < (s.length : Int)) = True := eq_true (by omega)
      have g1 : (0 ≤ (a : Int)) = True := eq_true (by omega)
      simp +contextual (maxSteps := 1000000) only [r0, hg, g0, g1, List.getElem?_eq_getElem hlt, Int.toNat_natCast, ↓wA, wB, wZ, repeatV, RX.evs, spl, over, ones, Ex.ends, evR, oneOf, top, ↓reduceIte, Nat.reduceEqDiff, Nat.reduceLeDiff, Nat.reduceAdd, Nat.reduceSub, Nat.reduceMul, reduceCtorEq, Int.reduceEq, Int.reduceLT, Int.reduceLE, Int.reduceNeg, Int.reduceAdd, Int.reduceSub]
      refine callK_pure (Letter_pure _ _) ?_
      rw [show (withinB (s[a].toNat : Int) 97 122 || withinB (s[a].toNat : Int) 65 90 || withinB (s[a].toNat : Int) 48 57 || decide ((s[a].toNat : Int) = 95) || decide ((s[a].toNat : Int) = 39)) = ltr s[a] from letterI_ltr _]
      cases hc : ltr s[a] with
      | true =>
        rw [runTo_step hlt hc] at hok
        have w2 : IntKind.i64.wrap ((a : Int) + 1) = ((a + 1 : Nat) : Int) := by rw [wrap_i64 (by omega) (by omega)]; rfl
        simp +contextual (maxSteps := 1000000) only [r0, r2, hg, g0, g1, w2, List.getElem?_eq_getElem hlt, Int.toNat_natCast, ↓wA, wB, wZ, repeatV, RX.evs, spl, over, ones, Ex.ends, evR, oneOf, top, ↓reduceIte, Nat.reduceEqDiff, Nat.reduceLeDiff, Nat.reduceAdd, Nat.reduceSub, Nat.reduceMul, reduceCtorEq, Int.reduceEq, Int.reduceLT, Int.reduceLE, Int.reduceNeg, Int.reduceAdd, Int.reduceSub]
        exact ⟨⟨hm.set (fun _ => .inl rfl) _, slo_setB hS' hbB _, a + 1, rfl, by omega, by omega, hok⟩, by omega⟩
      | false =>
        rw [runTo_stop hlt hc] at hok
        simp +contextual (maxSteps := 1000000) only [r0, hg, g0, g1, List.getElem?_eq_getElem hlt, Int.toNat_natCast, ↓wA, wB, wZ, repeatV, RX.evs, spl, over, ones, Ex.ends, evR, oneOf, top, ↓reduceIte, Nat.reduceEqDiff, Nat.reduceLeDiff, Nat.reduceAdd, Nat.reduceSub, Nat.reduceMul, reduceCtorEq, Int.reduceEq, Int.reduceLT, Int.reduceLE, Int.reduceNeg, Int.reduceAdd, Int.reduceSub]
        refine refvar_tail s p ws v b B h h' hm (by rw [hok]; exact hg) hp hs hS' (hm.old hob) hbB (by omega) hw _ (by simp only [r0, ↓wA, wB, wZ, repeatV, RX.evs, spl, over, ones, Ex.ends, evR, oneOf, top, ↓reduceIte, Nat.reduceEqDiff, Nat.reduceLeDiff, Nat.reduceAdd, Nat.reduceSub, Nat.reduceMul, reduceCtorEq, Int.reduceEq, Int.reduceLT, Int.reduceLE, Int.reduceNeg, Int.reduceAdd, Int.reduceSub]) (by simp only [r2, ↓wA, wB, wZ, repeatV, RX.evs, spl, over, ones, Ex.ends, evR, oneOf, top, ↓reduceIte, Nat.reduceEqDiff, Nat.reduceLeDiff, Nat.reduceAdd, Nat.reduceSub, Nat.reduceMul, reduceCtorEq, Int.reduceEq, Int.reduceLT, Int.reduceLE, Int.reduceNeg, Int.reduceAdd, Int.reduceSub]) _ (fun e _ _ he hr => ?_)
        rcases he with rfl | rfl <;> exact ⟨trivial, hr⟩
    · have g0 : ((a : Int) < (s.length : Int)) = False := eq_false (by omega)
      rw [runTo_end (a := a) (by omega)] at hok
      simp +contextual (maxSteps := 1000000) only [r0, hg, g0, ↓wA, wB, wZ, repeatV, RX.evs, spl, over, ones, Ex.ends, evR, oneOf, top, ↓reduceIte, Nat.reduceEqDiff, Nat.reduceLeDiff, Nat.reduceAdd, Nat.reduceSub, Nat.reduceMul, reduceCtorEq, Int.reduceEq, Int.reduceLT, Int.reduceLE, Int.reduceNeg, Int.reduceAdd, Int.reduceSub]
      refine refvar_tail s p ws v b B h h' hm (by rw [hok]; exact hg) hp hs hS' (hm.old hob) hbB (by omega) hw _ (by simp only [r0, ↓wA, wB, wZ, repeatV, RX.evs, spl, over, ones, Ex.ends, evR, oneOf, top, ↓reduceIte, Nat.reduceEqDiff, Nat.reduceLeDiff, Nat.reduceAdd, Nat.reduceSub, Nat.reduceMul, reduceCtorEq, Int.reduceEq, Int.reduceLT, Int.reduceLE, Int.reduceNeg, Int.reduceAdd, Int.reduceSub]) (by simp only [r2, ↓wA, wB, wZ, repeatV, RX.evs, spl, over, ones, Ex.ends, evR, oneOf, top, ↓reduceIte, Nat.reduceEqDiff, Nat.reduceLeDiff, Nat.reduceAdd, Nat.reduceSub, Nat.reduceMul, reduceCtorEq, Int.reduceEq, Int.reduceLT, Int.reduceLE, Int.reduceNeg, Int.reduceAdd, Int.reduceSub]) _ (fun e _ _ he hr => ?_)
      rcases he with rfl | rfl <;> exact ⟨trivial, hr⟩
end Go.Proofs.YthcgccnbhdociaaDoor

namespace Go.Proofs.YthcgccnbhdociaaDoor
open Go Am
set_option linter.unusedSectionVars false
set_option linter.unusedSimpArgs false
set_option linter.unusedVariables false

theorem wrap_u8 {n : Int} (h0 : 0 ≤ n) (h1 : n < 256) : IntKind.u8.wrap n = n := by
  simp [IntKind.wrap, IntKind.bits, IntKind.signed]
  omega
theorem valM_snoc (l : List UInt8) (c : UInt8) : valM (l ++ [c]) = 10 * valM l + (c.toNat - 48) := by
  unfold valM
  rw [List.foldl_append]
  rfl
theorem take_snoc {s : List UInt8} {p a : Nat} (hpa : p ≤ a) (hlt : a < s.length) : (s.drop p).take (a + 1 - p) = (s.drop p).take (a - p) ++ [s[a]] := by
  have h2 : a - p < (s.drop p).length := by rw [List.length_drop]; omega
  rw [show a + 1 - p = a - p + 1 from by omega, ← List.take_append_getElem h2]
  congr 1
  rw [List.getElem_drop]
  simp only [show p + (a - p) = a from by omega]

def c30t : RC := match c30 with
  | .seq _ (.seq _ t) => t
  | c => c

theorem refnum_tail (s : List UInt8) (p : Nat) (n e : Int) (ws : List Wd) (v : V) (b : Pa) (B : Nat) (h0 h : Heap) (hm : Mod (RM b B) h0 h) (hb : h.get b = .ofL [.str s, .int .i64 (runTo dig s p : Nat), .int .i64 p, .int .i64 e, v] 0 false) (hp : p ≤ s.length) (hs : s.length ≤ 100000) (hS : SlO B h 4 v ws.length (wdsV ws)) (hob : Old h b) (hbB : unPa b < B) (hB : B ≤ h.next) (hw : ws.length ≤ 90000)
    (hn : (e = 0 ∧ n = valM ((s.drop p).takeWhile dig) ∧ valM ((s.drop p).takeWhile dig) < 2147483648) ∨ (e = 254 ∧ 2147483648 ≤ valM ((s.drop p).takeWhile dig) ∧ 0 ≤ n ∧ n < 2147483648))
    (r : RF) (r0 : r 0 = .ptr b 0) (r2 : r 2 = .int .i64 n) (Q : Ex → RF → Heap → Prop) (hQ : ∀ r' h', ROut s p b B ws h0 (numM (s.drop p)) h' → Q .normal r' h') :
    wpK Tryd.prog [.c c30t] .normal r h Q := by
  unfold c30t c30
  have hnum : numM (s.drop p) = if 2147483647 < valM ((s.drop p).takeWhile dig) then .error 254 else .ok (1, (if 1073741823 < (valM ((s.drop p).takeWhile dig) : Int) then (valM ((s.drop p).takeWhile dig) : Int) - 2147483648 else valM ((s.drop p).takeWhile dig)), [], ((s.drop p).takeWhile dig).length) := rfl
  rw [hnum] at hQ
  have hle := runTo_le dig s p hp
  have hlen : runTo dig s p = p + ((s.drop p).takeWhile dig).length := rfl
  rw [hlen] at hb hle
  generalize (s.drop p).takeWhile dig = t at *
  simp +contextual only [r0, r2, hb, ↓wA, wB, wZ, repeatV, RX.evs, spl, over, ones, Ex.ends, evR, oneOf, top, ↓reduceIte, Nat.reduceEqDiff, Nat.reduceLeDiff, Nat.reduceAdd, Nat.reduceSub, Nat.reduceMul, reduceCtorEq, Int.reduceEq, Int.reduceLT, Int.reduceLE, Int.reduceNeg, Int.reduceAdd, Int.reduceSub]
  have hnb : 0 ≤ n ∧ n ≤ 2147483648 := by omega
  refine callK_pure (number_pure n _ hnb.1 hnb.2) ?_
  simp +contextual only [r0, r2, hb, ↓wA, wB, wZ, repeatV, RX.evs, spl, over, ones, Ex.ends, evR, oneOf, top, ↓reduceIte, Nat.reduceEqDiff, Nat.reduceLeDiff, Nat.reduceAdd, Nat.reduceSub, Nat.reduceMul, reduceCtorEq, Int.reduceEq, Int.reduceLT, Int.reduceLE, Int.reduceNeg, Int.reduceAdd, Int.reduceSub]
  refine callK_intro (add_ctr s (p + t.length) p e 1 _ [] ws v b B _ hb hS hob hbB hB (by omega)) ?_
  rintro x h2 ⟨hm2, v2, q1, q2⟩
  simp +contextual only [r0, ↓wA, wB, wZ, repeatV, RX.evs, spl, over, ones, Ex.ends, evR, oneOf, top, ↓reduceIte, Nat.reduceEqDiff, Nat.reduceLeDiff, Nat.reduceAdd, Nat.reduceSub, Nat.reduceMul, reduceCtorEq, Int.reduceEq, Int.reduceLT, Int.reduceLE, Int.reduceNeg, Int.reduceAdd, Int.reduceSub]
  refine hQ _ _ ?_
  rcases hn with ⟨rfl, rfl, hv⟩ | ⟨rfl, hv, _⟩
  · rw [if_neg (by omega)]
    exact ⟨hm.trans hm2, v2, q1, hle, q2⟩
  · rw [if_pos (by omega)]
    exact ⟨hm.trans hm2, v2, by decide, _, q1⟩

theorem refnum_ctr (s : List UInt8) (p : Nat) (ws : List Wd) (v : V) (b : Pa) (B : Nat) (h : Heap) (hb : h.get b = rdB s p p 0 v) (hp : p < s.length) (hs : s.length ≤ 100000) (hS : SlO B h 4 v ws.length (wdsV ws)) (hob : Old h b) (hbB : unPa b < B) (hB : B ≤ h.next) (hw : ws.length ≤ 90000) :
    Ctr Tryd.prog 30 [.ptr b 0] h fun x h' => ROut s p b B ws h (numM (s.drop p)) h' := by
  refine c30_ctr rfl (wpK_of ?_)
  have hsp : c30 = .seq (match c30 with | .seq x _ => x | c => c) (.seq (.block 0 (.loop c30l1)) c30t) := rfl
  rw [hsp]
  unfold c30
  unfold rdB at hb
  simp +contextual only [hb, ↓wA, wB, wZ, repeatV, RX.evs, spl, over, ones, Ex.ends, evR, oneOf, top, ↓reduceIte, Nat.reduceEqDiff, Nat.reduceLeDiff, Nat.reduceAdd, Nat.reduceSub, Nat.reduceMul, reduceCtorEq, Int.reduceEq, Int.reduceLT, Int.reduceLE, Int.reduceNeg, Int.reduceAdd, Int.reduceSub]
  refine loopK_intro (fun r h' => r 0 = .ptr b 0 ∧ Mod (RM b B) h h' ∧ SlO B h' 4 v ws.length (wdsV ws) ∧ ∃ (a : Nat) (n e : Int), r 2 = .int .i64 n ∧ h'.get b = .ofL [.str s, .int .i64 a, .int .i64 p, .int .i64 e, v] 0 false ∧ p ≤ a ∧ a ≤ s.length ∧ runTo dig s p = runTo dig s a ∧
    ((e = 0 ∧ n = valM ((s.drop p).take (a - p)) ∧ valM ((s.drop p).take (a - p)) < 2147483648) ∨ (e = 254 ∧ 2147483648 ≤ valM ((s.drop p).take (a - p)) ∧ 0 ≤ n ∧ n < 2147483648))) (fun r h' => s.length - ((ld1B (h'.get b) 1).getD .bad).toN) ?_ ?_
  · exact ⟨by simp only [↓wA, wB, wZ, repeatV, RX.evs, spl, over, ones, Ex.ends, evR, oneOf, top, ↓reduceIte, Nat.reduceEqDiff, Nat.reduceLeDiff, Nat.reduceAdd, Nat.reduceSub, Nat.reduceMul, reduceCtorEq, Int.reduceEq, Int.reduceLT, Int.reduceLE, Int.reduceNeg, Int.reduceAdd, Int.reduceSub], Mod.refl _ _, hS, p, 0, 0, by simp only [↓wA, wB, wZ, repeatV, RX.evs, spl, over, ones, Ex.ends, evR, oneOf, top, ↓reduceIte, Nat.reduceEqDiff, Nat.reduceLeDiff, Nat.reduceAdd, Nat.reduceSub, Nat.reduceMul, reduceCtorEq, Int.reduceEq, Int.reduceLT, Int.reduceLE, Int.reduceNeg, Int.reduceAdd, Int.reduceSub], hb, Nat.le_refl _, by omega, rfl, .inl ⟨rfl, by rw [Nat.sub_self]; rfl, by rw [Nat.sub_self]; simp [valM]⟩⟩
  · rintro r h' ⟨r0, hm, hS', a, n, e, r2, hg, k0, k1, hok, hv⟩
    unfold c30l1
    have hnext := hm.next
    by_cases hlt : a < s.length
    · have g0 : ((a : Int) < (s.length : Int)) = True := eq_true (by omega)
      have g1 : (0 ≤ (a : Int)) = True := eq_true (by omega)
      simp +contextual (maxSteps := 1000000) only [r0, hg, g0, g1, List.getElem?_eq_getElem hlt, Int.toNat_natCast, ↓wA, wB, wZ, repeatV, RX.evs, spl, over, ones, Ex.ends, evR, oneOf, top, ↓reduceIte, Nat.reduceEqDiff, Nat.reduceLeDiff, Nat.reduceAdd, Nat.reduceSub, Nat.reduceMul, reduceCtorEq, Int.reduceEq, Int.reduceLT, Int.reduceLE, Int.reduceNeg, Int.reduceAdd, Int.reduceSub]
      refine callK_pure (within_pure _ _ _ _) ?_
      rw [show withinB (s[a].toNat : Int) 48 57 = dig s[a] from rfl]
      cases hc : dig s[a] with
      | true =>
        rw [runTo_step hlt hc] at hok
        have hd := hc
        simp only [dig, digitB, Bool.and_eq_true, decide_eq_true_eq] at hd
        have hsn := take_snoc k0 hlt
        have hvs : valM ((s.drop p).take (a + 1 - p)) = 10 * valM ((s.drop p).take (a - p)) + (s[a].toNat - 48) := by rw [hsn, valM_snoc]
        have hnb : 0 ≤ n ∧ n < 2147483648 := by omega
        have w1 : IntKind.i64.wrap ((a : Int) + 1) = ((a + 1 : Nat) : Int) := by rw [wrap_i64 (by omega) (by omega)]; rfl
        have w2 : IntKind.u8.wrap ((s[a].toNat : Int) - 48) = (s[a].toNat : Int) - 48 := wrap_u8 (by omega) (by omega)
        have w3 : IntKind.i64.wrap ((s[a].toNat : Int) - 48) = (s[a].toNat : Int) - 48 := wrap_i64 (by omega) (by omega)
        have w4 : IntKind.i64.wrap (10 * n) = 10 * n := wrap_i64 (by omega) (by omega)
        have w5 : IntKind.i64.wrap (10 * n + ((s[a].toNat : Int) - 48)) = 10 * n + ((s[a].toNat : Int) - 48) := wrap_i64 (by omega) (by omega)
        by_cases hbig : (2147483648 : Int) ≤ 10 * n + ((s[a].toNat : Int) - 48)
        · simp +contextual (maxSteps := 1000000) only [r0, r2, hg, g0, g1, w1, w2, w3, w4, w5, hbig, List.getElem?_eq_getElem hlt, Int.toNat_natCast, ↓wA, wB, wZ, repeatV, RX.evs, spl, over, ones, Ex.ends, evR, oneOf, top, ↓reduceIte, Nat.reduceEqDiff, Nat.reduceLeDiff, Nat.reduceAdd, Nat.reduceSub, Nat.reduceMul, reduceCtorEq, Int.reduceEq, Int.reduceLT, Int.reduceLE, Int.reduceNeg, Int.reduceAdd, Int.reduceSub]
          refine ⟨⟨(hm.set (fun _ => .inl rfl) _).set (fun _ => .inl rfl) _, slo_setB (slo_setB hS' hbB _) hbB _, a + 1, 0, 254, rfl, rfl, by omega, by omega, hok, .inr ⟨rfl, ?_, by omega, by omega⟩⟩, by omega⟩
          rw [hvs]
          rcases hv with ⟨_, q, _⟩ | ⟨_, q, _⟩ <;> omega
        · simp +contextual (maxSteps := 1000000) only [r0, r2, hg, g0, g1, w1, w2, w3, w4, w5, hbig, List.getElem?_eq_getElem hlt, Int.toNat_natCast, ↓wA, wB, wZ, repeatV, RX.evs, spl, over, ones, Ex.ends, evR, oneOf, top, ↓reduceIte, Nat.reduceEqDiff, Nat.reduceLeDiff, Nat.reduceAdd, Nat.reduceSub, Nat.reduceMul, reduceCtorEq, Int.reduceEq, Int.reduceLT, Int.reduceLE, Int.reduceNeg, Int.reduceAdd, Int.reduceSub]
          refine ⟨⟨hm.set (fun _ => .inl rfl) _, slo_setB hS' hbB _, a + 1, _, e, rfl, rfl, by omega, by omega, hok, ?_⟩, by omega⟩
          rw [hvs]
          rcases hv with ⟨q0, q, _⟩ | ⟨q0, q, _⟩
          · exact .inl ⟨q0, by omega, by omega⟩
          · exact .inr ⟨q0, by omega, by omega, by omega⟩
      | false =>
        rw [runTo_stop hlt hc] at hok
        simp +contextual (maxSteps := 1000000) only [r0, hg, g0, g1, List.getElem?_eq_getElem hlt, Int.toNat_natCast, ↓wA, wB, wZ, repeatV, RX.evs, spl, over, ones, Ex.ends, evR, oneOf, top, ↓reduceIte, Nat.reduceEqDiff, Nat.reduceLeDiff, Nat.reduceAdd, Nat.reduceSub, Nat.reduceMul, reduceCtorEq, Int.reduceEq, Int.reduceLT, Int.reduceLE, Int.reduceNeg, Int.reduceAdd, Int.reduceSub]
        refine refnum_tail s p n e ws v b B h h' hm (by rw [hok]; exact hg) (by omega) hs hS' (hm.old hob) hbB (by omega) hw ?_ _ (by simp only [r0, ↓wA, wB, wZ, repeatV, RX.evs, spl, over, ones, Ex.ends, evR, oneOf, top, ↓reduceIte, Nat.reduceEqDiff, Nat.reduceLeDiff, Nat.reduceAdd, Nat.reduceSub, Nat.reduceMul, reduceCtorEq, Int.reduceEq, Int.reduceLT, Int.reduceLE, Int.reduceNeg, Int.reduceAdd, Int.reduceSub]) (by simp only [r2, ↓wA, wB, wZ, repeatV, RX.evs, spl, over, ones, Ex.ends, evR, oneOf, top, ↓reduceIte, Nat.reduceEqDiff, Nat.reduceLeDiff, Nat.reduceAdd, Nat.reduceSub, Nat.reduceMul, reduceCtorEq, Int.reduceEq, Int.reduceLT, Int.reduceLE, Int.reduceNeg, Int.reduceAdd, Int.reduceSub]) _ (fun _ _ hr => ⟨trivial, hr⟩)
        rw [← runTo_take dig s p, hok]
        exact hv
    · have g0 : ((a : Int) < (s.length : Int)) = False := eq_false (by omega)
      rw [runTo_end (a := a) (by omega)] at hok
      simp +contextual (maxSteps := 1000000) only [r0, hg, g0, ↓wA, wB, wZ, repeatV, RX.evs, spl, over, ones, Ex.ends, evR, oneOf, top, ↓reduceIte, Nat.reduceEqDiff, Nat.reduceLeDiff, Nat.reduceAdd, Nat.reduceSub, Nat.reduceMul, reduceCtorEq, Int.reduceEq, Int.reduceLT, Int.reduceLE, Int.reduceNeg, Int.reduceAdd, Int.reduceSub]
      refine refnum_tail s p n e ws v b B h h' hm (by rw [hok]; exact hg) (by omega) hs hS' (hm.old hob) hbB (by omega) hw ?_ _ (by simp only [r0, ↓wA, wB, wZ, repeatV, RX.evs, spl, over, ones, Ex.ends, evR, oneOf, top, ↓reduceIte, Nat.reduceEqDiff, Nat.reduceLeDiff, Nat.reduceAdd, Nat.reduceSub, Nat.reduceMul, reduceCtorEq, Int.reduceEq, Int.reduceLT, Int.reduceLE, Int.reduceNeg, Int.reduceAdd, Int.reduceSub]) (by simp only [r2, ↓wA, wB, wZ, repeatV, RX.evs, spl, over, ones, Ex.ends, evR, oneOf, top, ↓reduceIte, Nat.reduceEqDiff, Nat.reduceLeDiff, Nat.reduceAdd, Nat.reduceSub, Nat.reduceMul, reduceCtorEq, Int.reduceEq, Int.reduceLT, Int.reduceLE, Int.reduceNeg, Int.reduceAdd, Int.reduceSub]) _ (fun _ _ hr => ⟨trivial, hr⟩)
      rw [← runTo_take dig s p, hok]
      exact hv
end Go.Proofs.YthcgccnbhdociaaDoor

namespace Go.Proofs.YthcgccnbhdociaaDoor
open Go Am
set_option linter.unusedSectionVars false
set_option linter.unusedSimpArgs false
set_option linter.unusedVariables false

theorem escM_cons (c : UInt8) (r : List UInt8) : escM (c :: r) = if c = 110 then some (10, 1) else if c = 116 then some (9, 1) else if c = 34 then some (34, 1) else if c = 92 then some (92, 1) else
    if 2 ≤ r.length ∧ dig c ∧ dig (r[0]?.getD 0) ∧ dig (r[1]?.getD 0) ∧ valM (c :: r.take 2) < 256 then some ((valM (c :: r.take 2)).toUInt8, 3) else none := rfl
theorem escM_digits (R : List UInt8) (hR : R ≠ []) (h1 : R[0]? ≠ some 110) (h2 : R[0]? ≠ some 116) (h3 : R[0]? ≠ some 34) (h4 : R[0]? ≠ some 92) :
    escM R = if 3 ≤ R.length ∧ (R.take 3).all dig = true ∧ valM (R.take 3) < 256 then some ((valM (R.take 3)).toUInt8, 3) else none := by
  match R, hR with
  | c :: r, _ =>
    simp only [List.getElem?_cons_zero, ne_eq, Option.some.injEq] at h1 h2 h3 h4
    rw [escM_cons, if_neg h1, if_neg h2, if_neg h3, if_neg h4]
    match r with
    | [] => simp
    | [_] => simp
    | d1 :: d2 :: r' =>
      simp [and_assoc]
theorem all_take_mono {R : List UInt8} {i : Nat} (hi : i ≤ 3) (h : (R.take 3).all dig = true) : (R.take i).all dig = true := by
  rw [List.all_eq_true] at h ⊢
  intro x hx
  refine h x ?_
  rw [show R.take i = (R.take 3).take i from by rw [List.take_take, Nat.min_eq_left hi]] at hx
  exact List.mem_of_mem_take hx
theorem all_snoc {s : List UInt8} {a i : Nat} (hlt : a + i < s.length) : ((s.drop a).take (i + 1)).all dig = (((s.drop a).take i).all dig && dig s[a + i]) := by
  have h := take_snoc (p := a) (a := a + i) (by omega) hlt
  rw [show a + i + 1 - a = i + 1 from by omega, show a + i - a = i from by omega] at h
  rw [h, List.all_append]
  simp
theorem val_snoc {s : List UInt8} {a i : Nat} (hlt : a + i < s.length) : valM ((s.drop a).take (i + 1)) = 10 * valM ((s.drop a).take i) + (s[a + i].toNat - 48) := by
  have h := take_snoc (p := a) (a := a + i) (by omega) hlt
  rw [show a + i + 1 - a = i + 1 from by omega, show a + i - a = i from by omega] at h
  rw [h, valM_snoc]

theorem refesc_ctr (s : List UInt8) (a : Nat) (fr : Int) (v : V) (b : Pa) (h : Heap) (hb : h.get b = rdB s a fr 0 v) (h0 : a ≤ s.length) (hs : s.length ≤ 100000) (hob : Old h b) :
    Ctr Tryd.prog 58 [.ptr b 0] h fun x h' => Mod (fun q => q = b) h h' ∧ match escM (s.drop a) with
      | some (c, n) => x = .int .u8 (c.toNat : Int) ∧ h'.get b = rdB s ((a + n : Nat) : Int) fr 0 v ∧ a + n ≤ s.length
      | none => (∃ c : UInt8, x = .int .u8 (c.toNat : Int)) ∧ ∃ a' : Nat, h'.get b = rdB s (a' : Int) fr 252 v ∧ a ≤ a' ∧ a' ≤ s.length := by
  refine c58_ctr rfl (wpK_of ?_)
  unfold c58
  unfold rdB at hb ⊢
  have mm : ∀ v, Am.Mod (fun q => q = b) h ((h.set b v)) := fun v => (Mod.refl (fun q => q = b) h).self _
  by_cases hend : (s.length : Int) ≤ (a : Int)
  · have hR : s.drop a = [] := List.drop_eq_nil_of_le (by omega)
    rw [hR]
    simp +contextual only [hb, hend, ↓wA, wB, wZ, repeatV, RX.evs, spl, over, ones, Ex.ends, evR, oneOf, top, ↓reduceIte, Nat.reduceEqDiff, Nat.reduceLeDiff, Nat.reduceAdd, Nat.reduceSub, Nat.reduceMul, reduceCtorEq, Int.reduceEq, Int.reduceLT, Int.reduceLE, Int.reduceNeg, Int.reduceAdd, Int.reduceSub]
    exact ⟨mm _, ⟨0, rfl⟩, a, rfl, Nat.le_refl _, h0⟩
  · have hlt : a < s.length := by omega
    have f0 : (0 ≤ (a : Int)) = True := eq_true (by omega)
    have f1 : ((a : Int) < (s.length : Int)) = True := eq_true (by omega)
    have w1 : IntKind.i64.wrap ((a : Int) + 1) = ((a + 1 : Nat) : Int) := by rw [wrap_i64 (by omega) (by omega)]; rfl
    have e110 : ((s[a].toNat : Int) = 110) = (s[a] = 110) := u8_eq _ 110 (by omega)
    have e116 : ((s[a].toNat : Int) = 116) = (s[a] = 116) := u8_eq _ 116 (by omega)
    have e34 : ((s[a].toNat : Int) = 34) = (s[a] = 34) := u8_eq _ 34 (by omega)
    have e92 : ((s[a].toNat : Int) = 92) = (s[a] = 92) := u8_eq _ 92 (by omega)
    have hd := drop_cons hlt
    by_cases c1 : s[a] = 110
    · have em : escM (s.drop a) = some (10, 1) := by rw [hd, escM_cons, if_pos c1]
      rw [em]
      have c1 := eq_true c1
      simp +contextual only [hb, hend, f0, f1, w1, e110, e116, e34, e92, c1, List.getElem?_eq_getElem hlt, Int.toNat_natCast, ↓wA, wB, wZ, repeatV, RX.evs, spl, over, ones, Ex.ends, evR, oneOf, top, ↓reduceIte, Nat.reduceEqDiff, Nat.reduceLeDiff, Nat.reduceAdd, Nat.reduceSub, Nat.reduceMul, reduceCtorEq, Int.reduceEq, Int.reduceLT, Int.reduceLE, Int.reduceNeg, Int.reduceAdd, Int.reduceSub]
      refine ⟨mm _, ?_⟩
      first | omega | (refine ⟨rfl, ?_⟩; omega) | (simp [c3]; omega) | (simp [c4]; omega) | (simp; omega)
    by_cases c2 : s[a] = 116
    · have em : escM (s.drop a) = some (9, 1) := by rw [hd, escM_cons, if_neg c1, if_pos c2]
      rw [em]
      have c2 := eq_true c2
      simp +contextual only [hb, hend, f0, f1, w1, e110, e116, e34, e92, c1, c2, List.getElem?_eq_getElem hlt, Int.toNat_natCast, ↓wA, wB, wZ, repeatV, RX.evs, spl, over, ones, Ex.ends, evR, oneOf, top, ↓reduceIte, Nat.reduceEqDiff, Nat.reduceLeDiff, Nat.reduceAdd, Nat.reduceSub, Nat.reduceMul, reduceCtorEq, Int.reduceEq, Int.reduceLT, Int.reduceLE, Int.reduceNeg, Int.reduceAdd, Int.reduceSub]
      refine ⟨mm _, ?_⟩
      first | omega | (refine ⟨rfl, ?_⟩; omega) | (simp [c3]; omega) | (simp [c4]; omega) | (simp; omega)
    by_cases c3 : s[a] = 34
    · have em : escM (s.drop a) = some (34, 1) := by rw [hd, escM_cons, if_neg c1, if_neg c2, if_pos c3]
      rw [em]
      have c3' := eq_true c3
      simp +contextual only [hb, hend, f0, f1, w1, e110, e116, e34, e92, c1, c2, c3', List.getElem?_eq_getElem hlt, Int.toNat_natCast, ↓wA, wB, wZ, repeatV, RX.evs, spl, over, ones, Ex.ends, evR, oneOf, top, ↓reduceIte, Nat.reduceEqDiff, Nat.reduceLeDiff, Nat.reduceAdd, Nat.reduceSub, Nat.reduceMul, reduceCtorEq, Int.reduceEq, Int.reduceLT, Int.reduceLE, Int.reduceNeg, Int.reduceAdd, Int.reduceSub]
      refine ⟨mm _, ?_⟩
      first | omega | (refine ⟨rfl, ?_⟩; omega) | (simp [c3]; omega) | (simp [c4]; omega) | (simp; omega)
    by_cases c4 : s[a] = 92
    · have em : escM (s.drop a) = some (92, 1) := by rw [hd, escM_cons, if_neg c1, if_neg c2, if_neg c3, if_pos c4]
      rw [em]
      have c4' := eq_true c4
      simp +contextual only [hb, hend, f0, f1, w1, e110, e116, e34, e92, c1, c2, c3, c4', List.getElem?_eq_getElem hlt, Int.toNat_natCast, ↓wA, wB, wZ, repeatV, RX.evs, spl, over, ones, Ex.ends, evR, oneOf, top, ↓reduceIte, Nat.reduceEqDiff, Nat.reduceLeDiff, Nat.reduceAdd, Nat.reduceSub, Nat.reduceMul, reduceCtorEq, Int.reduceEq, Int.reduceLT, Int.reduceLE, Int.reduceNeg, Int.reduceAdd, Int.reduceSub]
      refine ⟨mm _, ?_⟩
      first | omega | (refine ⟨rfl, ?_⟩; omega) | (simp [c3]; omega) | (simp [c4]; omega) | (simp; omega)
    have hR0 : (s.drop a)[0]? = some s[a] := by rw [hd]; rfl
    have em := escM_digits (s.drop a) (by rw [hd]; exact List.cons_ne_nil _ _) (by rw [hR0]; simpa using c1) (by rw [hR0]; simpa using c2) (by rw [hR0]; simpa using c3) (by rw [hR0]; simpa using c4)
    have hRl : (s.drop a).length = s.length - a := List.length_drop
    rw [hRl] at em
    rw [em]
    simp +contextual only [hb, hend, f0, f1, w1, e110, e116, e34, e92, c1, c2, c3, c4, List.getElem?_eq_getElem hlt, Int.toNat_natCast, ↓wA, wB, wZ, repeatV, RX.evs, spl, over, ones, Ex.ends, evR, oneOf, top, ↓reduceIte, Nat.reduceEqDiff, Nat.reduceLeDiff, Nat.reduceAdd, Nat.reduceSub, Nat.reduceMul, reduceCtorEq, Int.reduceEq, Int.reduceLT, Int.reduceLE, Int.reduceNeg, Int.reduceAdd, Int.reduceSub]
    refine loopK_intro (fun r h' => r 0 = .ptr b 0 ∧ h' = h.set b (.ofL [.str s, .int .i64 ((a + 1 : Nat) : Int), .int .i64 fr, .int .i64 0, v] 0 false) ∧ ∃ (i : Nat) (n : Int), r 5 = .int .i64 i ∧ r 4 = .int .i64 n ∧ i ≤ 3 ∧ a + i ≤ s.length ∧ ((s.drop a).take i).all dig = true ∧ n = valM ((s.drop a).take i) ∧
      ((i = 0 ∧ n < 1) ∨ (i = 1 ∧ n < 10) ∨ (i = 2 ∧ n < 100) ∨ (i = 3 ∧ n < 1000))) (fun r h' => 3 - (r 5).toN) ?_ ?_
    · exact ⟨by simp only [↓wA, wB, wZ, repeatV, RX.evs, spl, over, ones, Ex.ends, evR, oneOf, top, ↓reduceIte, Nat.reduceEqDiff, Nat.reduceLeDiff, Nat.reduceAdd, Nat.reduceSub, Nat.reduceMul, reduceCtorEq, Int.reduceEq, Int.reduceLT, Int.reduceLE, Int.reduceNeg, Int.reduceAdd, Int.reduceSub], rfl, 0, 0, by simp only [↓wA, wB, wZ, repeatV, RX.evs, spl, over, ones, Ex.ends, evR, oneOf, top, ↓reduceIte, Nat.reduceEqDiff, Nat.reduceLeDiff, Nat.reduceAdd, Nat.reduceSub, Nat.reduceMul, reduceCtorEq, Int.reduceEq, Int.reduceLT, Int.reduceLE, Int.reduceNeg, Int.reduceAdd, Int.reduceSub]; rfl, by simp only [↓wA, wB, wZ, repeatV, RX.evs, spl, over, ones, Ex.ends, evR, oneOf, top, ↓reduceIte, Nat.reduceEqDiff, Nat.reduceLeDiff, Nat.reduceAdd, Nat.reduceSub, Nat.reduceMul, reduceCtorEq, Int.reduceEq, Int.reduceLT, Int.reduceLE, Int.reduceNeg, Int.reduceAdd, Int.reduceSub], by omega, by omega, rfl, rfl, .inl ⟨rfl, by omega⟩⟩
    · rintro r h' ⟨r0, rfl, i, n, r5, r4, hi3, hil, hall, hn, hnb⟩
      unfold c58l1
      have hgb : ∀ k : Blk, (h.set b k).get b = k := fun k => by rw [get_set, if_pos rfl]
      by_cases hi : i < 3
      · have g0 : ((i : Int) < 3) = True := eq_true (by omega)
        have v1 : IntKind.i64.wrap (((a + 1 : Nat) : Int) - 1) = (a : Int) := by rw [wrap_i64 (by omega) (by omega)]; omega
        have v2 : IntKind.i64.wrap ((a : Int) + (i : Int)) = ((a + i : Nat) : Int) := by rw [wrap_i64 (by omega) (by omega)]; rfl
        by_cases hout : (s.length : Int) ≤ ((a + i : Nat) : Int)
        · simp +contextual (maxSteps := 1000000) only [r0, r5, r4, g0, v1, v2, hgb, hout, ↓wA, wB, wZ, repeatV, RX.evs, spl, over, ones, Ex.ends, evR, oneOf, top, ↓reduceIte, Nat.reduceEqDiff, Nat.reduceLeDiff, Nat.reduceAdd, Nat.reduceSub, Nat.reduceMul, reduceCtorEq, Int.reduceEq, Int.reduceLT, Int.reduceLE, Int.reduceNeg, Int.reduceAdd, Int.reduceSub]
          rw [if_neg (by omega)]
          exact ⟨(mm _).self _, ⟨0, rfl⟩, a + 1, by first | rfl | rw [get_set, if_pos rfl], by omega, by omega⟩
        · have hlti : a + i < s.length := by omega
          have g1 : (0 ≤ ((a + i : Nat) : Int)) = True := eq_true (by omega)
          have g2 : (((a + i : Nat) : Int) < (s.length : Int)) = True := eq_true (by omega)
          simp +contextual (maxSteps := 1000000) only [r0, r5, r4, g0, g1, g2, v1, v2, hgb, hout, List.getElem?_eq_getElem hlti, Int.toNat_natCast, ↓wA, wB, wZ, repeatV, RX.evs, spl, over, ones, Ex.ends, evR, oneOf, top, ↓reduceIte, Nat.reduceEqDiff, Nat.reduceLeDiff, Nat.reduceAdd, Nat.reduceSub, Nat.reduceMul, reduceCtorEq, Int.reduceEq, Int.reduceLT, Int.reduceLE, Int.reduceNeg, Int.reduceAdd, Int.reduceSub]
          refine callK_pure (within_pure _ _ _ _) ?_
          rw [show withinB (s[a + i].toNat : Int) 48 57 = dig s[a + i] from rfl]
          have has := all_snoc hlti
          rw [hall, Bool.true_and] at has
          cases hc : dig s[a + i] with
          | true =>
            rw [hc] at has
            have hvs := val_snoc hlti
            have hdd := hc
            simp only [dig, digitB, Bool.and_eq_true, decide_eq_true_eq] at hdd
            have u2 : IntKind.u8.wrap ((s[a + i].toNat : Int) - 48) = (s[a + i].toNat : Int) - 48 := wrap_u8 (by omega) (by omega)
            have u3 : IntKind.i64.wrap ((s[a + i].toNat : Int) - 48) = (s[a + i].toNat : Int) - 48 := wrap_i64 (by omega) (by omega)
            have u4 : IntKind.i64.wrap (10 * n) = 10 * n := wrap_i64 (by omega) (by omega)
            have u5 : IntKind.i64.wrap (10 * n + ((s[a + i].toNat : Int) - 48)) = 10 * n + ((s[a + i].toNat : Int) - 48) := wrap_i64 (by omega) (by omega)
            have u6 : IntKind.i64.wrap ((i : Int) + 1) = ((i + 1 : Nat) : Int) := by rw [wrap_i64 (by omega) (by omega)]; rfl
            simp +contextual (maxSteps := 1000000) only [r0, r5, r4, g0, g1, g2, v1, v2, u2, u3, u4, u5, u6, hgb, hout, List.getElem?_eq_getElem hlti, Int.toNat_natCast, ↓wA, wB, wZ, repeatV, RX.evs, spl, over, ones, Ex.ends, evR, oneOf, top, ↓reduceIte, Nat.reduceEqDiff, Nat.reduceLeDiff, Nat.reduceAdd, Nat.reduceSub, Nat.reduceMul, reduceCtorEq, Int.reduceEq, Int.reduceLT, Int.reduceLE, Int.reduceNeg, Int.reduceAdd, Int.reduceSub]
            exact ⟨⟨i + 1, _, rfl, rfl, by omega, by omega, has, by rw [hvs]; omega, by omega⟩, by omega⟩
          | false =>
            rw [hc] at has
            have hno : ¬ ((s.drop a).take 3).all dig = true := fun q => by
              rw [all_take_mono (i := i + 1) (by omega) q] at has
              cases has
            simp +contextual (maxSteps := 1000000) only [r0, r5, r4, g0, g1, g2, v1, v2, hgb, hout, List.getElem?_eq_getElem hlti, Int.toNat_natCast, ↓wA, wB, wZ, repeatV, RX.evs, spl, over, ones, Ex.ends, evR, oneOf, top, ↓reduceIte, Nat.reduceEqDiff, Nat.reduceLeDiff, Nat.reduceAdd, Nat.reduceSub, Nat.reduceMul, reduceCtorEq, Int.reduceEq, Int.reduceLT, Int.reduceLE, Int.reduceNeg, Int.reduceAdd, Int.reduceSub]
            rw [if_neg (fun q => hno q.2.1)]
            exact ⟨(mm _).self _, ⟨0, rfl⟩, a + 1, by first | rfl | rw [get_set, if_pos rfl], by omega, by omega⟩
      · obtain rfl : i = 3 := by omega
        have g0 : ((3 : Int) < 3) = False := eq_false (by omega)
        have c3n : ((3 : Nat) : Int) = 3 := rfl
        have v1 : IntKind.i64.wrap (((a + 1 : Nat) : Int) + 2) = ((a + 3 : Nat) : Int) := by rw [wrap_i64 (by omega) (by omega)]; omega
        by_cases hbig : (255 : Int) < n
        · have hw : IntKind.u8.wrap n = ((n.toNat.toUInt8).toNat : Int) := by
            simp [IntKind.wrap, IntKind.bits, IntKind.signed]
            omega
          simp +contextual (maxSteps := 1000000) only [r0, r5, r4, c3n, g0, v1, hgb, hbig, hw, ↓wA, wB, wZ, repeatV, RX.evs, spl, over, ones, Ex.ends, evR, oneOf, top, ↓reduceIte, Nat.reduceEqDiff, Nat.reduceLeDiff, Nat.reduceAdd, Nat.reduceSub, Nat.reduceMul, reduceCtorEq, Int.reduceEq, Int.reduceLT, Int.reduceLE, Int.reduceNeg, Int.reduceAdd, Int.reduceSub]
          rw [if_neg (by omega)]
          exact ⟨((mm _).self _).self _, ⟨_, rfl⟩, a + 3, by first | rfl | rw [get_set, if_pos rfl], by omega, by omega⟩
        · have hw : IntKind.u8.wrap n = (((valM ((s.drop a).take 3)).toUInt8).toNat : Int) := by
            rw [hn]
            simp [IntKind.wrap, IntKind.bits, IntKind.signed]
          simp +contextual (maxSteps := 1000000) only [r0, r5, r4, c3n, g0, v1, hgb, hbig, hw, ↓wA, wB, wZ, repeatV, RX.evs, spl, over, ones, Ex.ends, evR, oneOf, top, ↓reduceIte, Nat.reduceEqDiff, Nat.reduceLeDiff, Nat.reduceAdd, Nat.reduceSub, Nat.reduceMul, reduceCtorEq, Int.reduceEq, Int.reduceLT, Int.reduceLE, Int.reduceNeg, Int.reduceAdd, Int.reduceSub]
          rw [if_pos ⟨by omega, hall, by omega⟩]
          refine ⟨(mm _).self _, ?_⟩
          first | omega | exact ⟨rfl, by first | rfl | rw [get_set, if_pos rfl], by omega⟩
end Go.Proofs.YthcgccnbhdociaaDoor

namespace Go.Proofs.YthcgccnbhdociaaDoor
open Go Am
set_option linter.unusedSectionVars false
set_option linter.unusedSimpArgs false
set_option linter.unusedVariables false

def c32t : RC := match c32 with
  | .seq _ (.seq _ (.seq _ t)) => t
  | c => c

theorem reftext_tail (s : List UInt8) (p a : Nat) (e : Int) (bs : List UInt8) (v2 : V) (ws : List Wd) (v : V) (b : Pa) (B : Nat) (h0 h : Heap) (hm : Mod (RM b B) h0 h) (hb : h.get b = .ofL [.str s, .int .i64 a, .int .i64 p, .int .i64 e, v] 0 false) (hp : p < s.length) (ha : a ≤ s.length) (hpa : p + 1 ≤ a) (hs : s.length ≤ 100000) (hS : SlO B h 4 v ws.length (wdsV ws)) (hob : Old h b) (hbB : unPa b < B) (hB : B ≤ h.next) (hw : ws.length ≤ 90000)
    (hS2 : SlO B h 1 v2 bs.length (bytesV bs))
    (hres : (e = 0 ∧ a < s.length ∧ textM (s.drop (p + 1)) = some (bs, a - p)) ∨ ((e = 252 ∨ (e = 0 ∧ s.length ≤ a)) ∧ textM (s.drop (p + 1)) = none))
    (r : RF) (r0 : r 0 = .ptr b 0) (r2 : r 2 = v2) (Q : Ex → RF → Heap → Prop) (hQ : ∀ r' h', ROut s p b B ws h0 (strM (s.drop (p + 1))) h' → Q .normal r' h') :
    wpK Tryd.prog [.c c32t] .normal r h Q := by
  unfold c32t c32
  have w1 : IntKind.i64.wrap ((a : Int) + 1) = ((a + 1 : Nat) : Int) := by rw [wrap_i64 (by omega) (by omega)]; rfl
  have hS2' : ∀ k, SlO B (h.set b k) 1 v2 bs.length (bytesV bs) := fun k => hS2.mod ((Mod.refl (fun q => q = b) h).self k) (fun q hq e => by
    have := hS2.base hq
    rw [show q = b from e] at this
    omega)
  have hS2'' : ∀ k k2, SlO B ((h.set b k).set b k2) 1 v2 bs.length (bytesV bs) := fun k k2 => (hS2' k).mod ((Mod.refl (fun q => q = b) (h.set b k)).self k2) (fun q hq e => by
    have := hS2.base hq
    rw [show q = b from e] at this
    omega)
  have hgk : ∀ (h : Heap) (k : Blk), (h.set b k).get b = k := fun h k => by rw [get_set, if_pos rfl]
  rcases hres with ⟨rfl, hlt, htx⟩ | ⟨he, htx⟩
  · have hstr : strM (s.drop (p + 1)) = if 4096 < bs.length then .error 255 else .ok (2, 0, bs, a - p + 1) := by unfold strM; rw [htx]
    rw [hstr] at hQ
    have g0 : ((s.length : Int) ≤ (a : Int)) = False := eq_false (by omega)
    by_cases hbig : 4096 < bs.length
    · rw [if_pos hbig] at hQ
      have g1 : ((4096 : Int) < (bs.length : Int)) = True := eq_true (by omega)
      simp +contextual (maxSteps := 1000000) only [r0, r2, hb, g0, g1, w1, hgk, hS2.v.len, convStr_own (hS2'' _ _), convStr_own (hS2' _), ↓wA, wB, wZ, repeatV, RX.evs, spl, over, ones, Ex.ends, evR, oneOf, top, ↓reduceIte, Nat.reduceEqDiff, Nat.reduceLeDiff, Nat.reduceAdd, Nat.reduceSub, Nat.reduceMul, reduceCtorEq, Int.reduceEq, Int.reduceLT, Int.reduceLE, Int.reduceNeg, Int.reduceAdd, Int.reduceSub]
      refine callK_intro (add_ctr s (a + 1) p 255 2 0 bs ws v b B _ (by rw [hgk]; rfl) (slo_setB (slo_setB hS hbB _) hbB _) hob hbB (by rw [next_set, next_set]; omega) (by omega)) ?_
      rintro x h2 ⟨hm2, v3, q1, q2⟩
      simp +contextual only [r0, ↓wA, wB, wZ, repeatV, RX.evs, spl, over, ones, Ex.ends, evR, oneOf, top, ↓reduceIte, Nat.reduceEqDiff, Nat.reduceLeDiff, Nat.reduceAdd, Nat.reduceSub, Nat.reduceMul, reduceCtorEq, Int.reduceEq, Int.reduceLT, Int.reduceLE, Int.reduceNeg, Int.reduceAdd, Int.reduceSub]
      exact hQ _ _ ⟨((hm.set (fun _ => .inl rfl) _).set (fun _ => .inl rfl) _).trans hm2, v3, by decide, _, q1⟩
    · rw [if_neg hbig] at hQ
      have g1 : ((4096 : Int) < (bs.length : Int)) = False := eq_false (by omega)
      simp +contextual (maxSteps := 1000000) only [r0, r2, hb, g0, g1, w1, hgk, hS2.v.len, convStr_own (hS2' _), ↓wA, wB, wZ, repeatV, RX.evs, spl, over, ones, Ex.ends, evR, oneOf, top, ↓reduceIte, Nat.reduceEqDiff, Nat.reduceLeDiff, Nat.reduceAdd, Nat.reduceSub, Nat.reduceMul, reduceCtorEq, Int.reduceEq, Int.reduceLT, Int.reduceLE, Int.reduceNeg, Int.reduceAdd, Int.reduceSub]
      refine callK_intro (add_ctr s (a + 1) p 0 2 0 bs ws v b B _ (by rw [hgk]; rfl) (slo_setB hS hbB _) hob hbB (by rw [next_set]; omega) (by omega)) ?_
      rintro x h2 ⟨hm2, v3, q1, q2⟩
      simp +contextual only [r0, ↓wA, wB, wZ, repeatV, RX.evs, spl, over, ones, Ex.ends, evR, oneOf, top, ↓reduceIte, Nat.reduceEqDiff, Nat.reduceLeDiff, Nat.reduceAdd, Nat.reduceSub, Nat.reduceMul, reduceCtorEq, Int.reduceEq, Int.reduceLT, Int.reduceLE, Int.reduceNeg, Int.reduceAdd, Int.reduceSub]
      refine hQ _ _ ⟨(hm.set (fun _ => .inl rfl) _).trans hm2, v3, ?_, ?_, q2⟩
      · rw [q1]
        show rdB s ((a + 1 : Nat) : Int) p 0 v3 = rdB s ((p + (a - p + 1) : Nat) : Int) p 0 v3
        rw [show p + (a - p + 1) = a + 1 from by omega]
      · show p + (a - p + 1) ≤ s.length
        omega
  · have hstr : strM (s.drop (p + 1)) = .error 252 := by unfold strM; rw [htx]
    rw [hstr] at hQ
    rcases he with rfl | ⟨rfl, hge⟩
    · simp +contextual (maxSteps := 1000000) only [r0, r2, hb, w1, hgk, hS2.v.len, convStr_own (hS2' _), ↓wA, wB, wZ, repeatV, RX.evs, spl, over, ones, Ex.ends, evR, oneOf, top, ↓reduceIte, Nat.reduceEqDiff, Nat.reduceLeDiff, Nat.reduceAdd, Nat.reduceSub, Nat.reduceMul, reduceCtorEq, Int.reduceEq, Int.reduceLT, Int.reduceLE, Int.reduceNeg, Int.reduceAdd, Int.reduceSub]
      refine callK_intro (add_ctr s (a + 1) p 252 2 0 bs ws v b B _ (by rw [hgk]; rfl) (slo_setB hS hbB _) hob hbB (by rw [next_set]; omega) (by omega)) ?_
      rintro x h2 ⟨hm2, v3, q1, q2⟩
      simp +contextual only [r0, ↓wA, wB, wZ, repeatV, RX.evs, spl, over, ones, Ex.ends, evR, oneOf, top, ↓reduceIte, Nat.reduceEqDiff, Nat.reduceLeDiff, Nat.reduceAdd, Nat.reduceSub, Nat.reduceMul, reduceCtorEq, Int.reduceEq, Int.reduceLT, Int.reduceLE, Int.reduceNeg, Int.reduceAdd, Int.reduceSub]
      exact hQ _ _ ⟨(hm.set (fun _ => .inl rfl) _).trans hm2, v3, by decide, _, q1⟩
    · have g0 : ((s.length : Int) ≤ (a : Int)) = True := eq_true (by omega)
      simp +contextual (maxSteps := 1000000) only [r0, r2, hb, g0, w1, hgk, hS2.v.len, convStr_own (hS2' _), convStr_own (hS2'' _ _), ↓wA, wB, wZ, repeatV, RX.evs, spl, over, ones, Ex.ends, evR, oneOf, top, ↓reduceIte, Nat.reduceEqDiff, Nat.reduceLeDiff, Nat.reduceAdd, Nat.reduceSub, Nat.reduceMul, reduceCtorEq, Int.reduceEq, Int.reduceLT, Int.reduceLE, Int.reduceNeg, Int.reduceAdd, Int.reduceSub]
      refine callK_intro (add_ctr s (a + 1) p 252 2 0 bs ws v b B _ (by rw [hgk]; rfl) (slo_setB (slo_setB hS hbB _) hbB _) hob hbB (by rw [next_set, next_set]; omega) (by omega)) ?_
      rintro x h2 ⟨hm2, v3, q1, q2⟩
      simp +contextual only [r0, ↓wA, wB, wZ, repeatV, RX.evs, spl, over, ones, Ex.ends, evR, oneOf, top, ↓reduceIte, Nat.reduceEqDiff, Nat.reduceLeDiff, Nat.reduceAdd, Nat.reduceSub, Nat.reduceMul, reduceCtorEq, Int.reduceEq, Int.reduceLT, Int.reduceLE, Int.reduceNeg, Int.reduceAdd, Int.reduceSub]
      exact hQ _ _ ⟨((hm.set (fun _ => .inl rfl) _).set (fun _ => .inl rfl) _).trans hm2, v3, by decide, _, q1⟩

theorem reftext_ctr (s : List UInt8) (p : Nat) (ws : List Wd) (v : V) (b : Pa) (B : Nat) (h : Heap) (hb : h.get b = rdB s p p 0 v) (hp : p < s.length) (hs : s.length ≤ 100000) (hS : SlO B h 4 v ws.length (wdsV ws)) (hob : Old h b) (hbB : unPa b < B) (hB : B ≤ h.next) (hw : ws.length ≤ 90000) :
    Ctr Tryd.prog 32 [.ptr b 0] h fun x h' => ROut s p b B ws h (strM (s.drop (p + 1))) h' := by
  refine c32_ctr rfl (wpK_of ?_)
  have hsp : c32 = .seq (match c32 with | .seq x _ => x | c => c) (.seq (match c32 with | .seq _ (.seq y _) => y | c => c) (.seq (.block 0 (.loop c32l1)) c32t)) := rfl
  rw [hsp]
  unfold c32
  unfold rdB at hb
  have w1 : IntKind.i64.wrap ((p : Int) + 1) = ((p + 1 : Nat) : Int) := by rw [wrap_i64 (by omega) (by omega)]; rfl
  simp +contextual only [hb, w1, ↓wA, wB, wZ, repeatV, RX.evs, spl, over, ones, Ex.ends, evR, oneOf, top, ↓reduceIte, Nat.reduceEqDiff, Nat.reduceLeDiff, Nat.reduceAdd, Nat.reduceSub, Nat.reduceMul, reduceCtorEq, Int.reduceEq, Int.reduceLT, Int.reduceLE, Int.reduceNeg, Int.reduceAdd, Int.reduceSub]
  have hSm : ∀ h', Mod (fun q => q = b) h h' → SlO B h' 4 v ws.length (wdsV ws) := fun h' hm => hS.mod hm (fun q hq e => by
    have := hS.base hq
    rw [show q = b from e] at this
    omega)
  refine loopK_intro (fun r h' => r 0 = .ptr b 0 ∧ ∃ (a : Nat) (e : Int) (bs : List UInt8) (v2 : V), r 2 = v2 ∧ h'.get b = .ofL [.str s, .int .i64 a, .int .i64 p, .int .i64 e, v] 0 false ∧ a ≤ s.length ∧ p + 1 ≤ a ∧ bs.length ≤ a ∧ Mod (fun q => q = b) h h' ∧ SlO h.next h' 1 v2 bs.length (bytesV bs) ∧
      ((e = 0 ∧ textM (s.drop (p + 1)) = (textM (s.drop a)).map fun q => (bs ++ q.1, q.2 + (a - (p + 1)))) ∨ (e = 252 ∧ textM (s.drop (p + 1)) = none)))
    (fun r h' => (s.length - ((ld1B (h'.get b) 1).getD .bad).toN) + (252 - ((ld1B (h'.get b) 3).getD .bad).toN)) ?_ ?_
  · refine ⟨by simp only [↓wA, wB, wZ, repeatV, RX.evs, spl, over, ones, Ex.ends, evR, oneOf, top, ↓reduceIte, Nat.reduceEqDiff, Nat.reduceLeDiff, Nat.reduceAdd, Nat.reduceSub, Nat.reduceMul, reduceCtorEq, Int.reduceEq, Int.reduceLT, Int.reduceLE, Int.reduceNeg, Int.reduceAdd, Int.reduceSub], p + 1, 0, [], .nilslice, by simp only [↓wA, wB, wZ, repeatV, RX.evs, spl, over, ones, Ex.ends, evR, oneOf, top, ↓reduceIte, Nat.reduceEqDiff, Nat.reduceLeDiff, Nat.reduceAdd, Nat.reduceSub, Nat.reduceMul, reduceCtorEq, Int.reduceEq, Int.reduceLT, Int.reduceLE, Int.reduceNeg, Int.reduceAdd, Int.reduceSub], by rw [get_set, if_pos rfl], by omega, by omega, by simp, (Mod.refl _ _).self _, ⟨rfl, rfl⟩, .inl ⟨rfl, ?_⟩⟩
    rw [Nat.sub_self]
    cases textM (s.drop (p + 1)) <;> rfl
  · rintro r h' ⟨r0, a, e, bs, v2, r2, hg, k1, k0, kb, hm, hS2, hok⟩
    unfold c32l1
    have hnx := hm.next
    have hS4 := hSm _ hm
    have notb : ∀ {h2 : Heap}, SlO h.next h2 1 v2 bs.length (bytesV bs) → ∀ q, v2.blk q → ¬ (fun q => q = b) q := by
      intro h2 hS q hq he
      have h1 := hS.base hq
      rw [show q = b from he] at h1
      have h2 : unPa b < h.next := hob
      omega
    have hmR : Mod (RM b B) h h' := hm.mono (fun q _ hq => .inl hq)
    have hS2B : SlO B h' 1 v2 bs.length (bytesV bs) := hS2.mono hB
    rcases hok with ⟨rfl, hok⟩ | ⟨rfl, hok⟩
    · by_cases hlt : a < s.length
      · have g0 : ((a : Int) < (s.length : Int)) = True := eq_true (by omega)
        have g1 : (0 ≤ (a : Int)) = True := eq_true (by omega)
        have w2 : IntKind.i64.wrap ((a : Int) + 1) = ((a + 1 : Nat) : Int) := by rw [wrap_i64 (by omega) (by omega)]; rfl
        have e34 : (((s[a]).toNat : Int) = 34) = (s[a] = 34) := u8_eq _ 34 (by omega)
        have e92 : (((s[a]).toNat : Int) = 92) = (s[a] = 92) := u8_eq _ 92 (by omega)
        have e127 : (((s[a]).toNat : Int) = 127) = (s[a] = 127) := u8_eq _ 127 (by omega)
        have l32 : (((s[a]).toNat : Int) < 32) = (s[a] < 32) := u8_lt _ 32 (by omega)
        rw [drop_cons hlt, textM_cons] at hok
        have step : ∀ (h2 : Heap), Mod (fun q => q = b) h h2 → h'.next ≤ h2.next → SlO h.next h2 1 v2 bs.length (bytesV bs) → ∀ (c : UInt8), ∃ v3 h3, appV 1 v2 (.slice (pa h2.next) 0 1 1) (h2.new (.ofL [.int .u8 (c.toNat : Int)] 0 false)) = .val v3 h3 ∧ SlO h.next h3 1 v3 (bs ++ [c]).length (bytesV (bs ++ [c])) ∧ Mod (fun q => q = b) h h3 ∧ h3.get b = h2.get b := by
          intro h2 hm2 hnx2 hS2' c
          obtain ⟨v3, h3, q1, q2, q3, q4, q5⟩ := app_one (cs := [.int .u8 (c.toNat : Int)]) (by omega) hS2' (by omega) (by unfold top; omega) rfl rfl
          refine ⟨v3, h3, q1, by rw [List.length_append, bytesV_append]; exact q2, hm2.then_new q3 (fun q hq => hS2'.base hq), ?_⟩
          exact q3.get _ (hm2.old hob) (fun hq => notb hS2' _ hq rfl)
        by_cases c1 : s[a] = 34
        · rw [if_pos c1] at hok
          simp only [Option.map_some, List.append_nil] at hok
          have c1' := eq_true c1
          simp +contextual (maxSteps := 1000000) only [r0, r2, hg, g0, g1, e34, c1', List.getElem?_eq_getElem hlt, Int.toNat_natCast, ↓wA, wB, wZ, repeatV, RX.evs, spl, over, ones, Ex.ends, evR, oneOf, top, ↓reduceIte, Nat.reduceEqDiff, Nat.reduceLeDiff, Nat.reduceAdd, Nat.reduceSub, Nat.reduceMul, reduceCtorEq, Int.reduceEq, Int.reduceLT, Int.reduceLE, Int.reduceNeg, Int.reduceAdd, Int.reduceSub]
          refine reftext_tail s p a 0 bs v2 ws v b B h h' hmR hg hp k1 k0 hs hS4 (hm.old hob) hbB (by omega) hw hS2B (.inl ⟨rfl, hlt, ?_⟩) _ (by simp only [r0, ↓wA, wB, wZ, repeatV, RX.evs, spl, over, ones, Ex.ends, evR, oneOf, top, ↓reduceIte, Nat.reduceEqDiff, Nat.reduceLeDiff, Nat.reduceAdd, Nat.reduceSub, Nat.reduceMul, reduceCtorEq, Int.reduceEq, Int.reduceLT, Int.reduceLE, Int.reduceNeg, Int.reduceAdd, Int.reduceSub]) (by simp only [r2, ↓wA, wB, wZ, repeatV, RX.evs, spl, over, ones, Ex.ends, evR, oneOf, top, ↓reduceIte, Nat.reduceEqDiff, Nat.reduceLeDiff, Nat.reduceAdd, Nat.reduceSub, Nat.reduceMul, reduceCtorEq, Int.reduceEq, Int.reduceLT, Int.reduceLE, Int.reduceNeg, Int.reduceAdd, Int.reduceSub]) _ (fun _ _ hr => ⟨trivial, hr⟩)
          rw [hok, show 1 + (a - (p + 1)) = a - p from by omega]
        rw [if_neg c1] at hok
        by_cases c2 : s[a] = 92
        · rw [if_pos c2] at hok
          have c2' := eq_true c2
          simp +contextual (maxSteps := 1000000) only [r0, r2, hg, g0, g1, e34, e92, c1, c2', w2, List.getElem?_eq_getElem hlt, Int.toNat_natCast, ↓wA, wB, wZ, repeatV, RX.evs, spl, over, ones, Ex.ends, evR, oneOf, top, ↓reduceIte, Nat.reduceEqDiff, Nat.reduceLeDiff, Nat.reduceAdd, Nat.reduceSub, Nat.reduceMul, reduceCtorEq, Int.reduceEq, Int.reduceLT, Int.reduceLE, Int.reduceNeg, Int.reduceAdd, Int.reduceSub]
          refine callK_intro (refesc_ctr s (a + 1) p v b (h'.set b (.ofL [.str s, .int .i64 ((a + 1 : Nat) : Int), .int .i64 p, .int .i64 0, v] 0 false)) (by rw [get_set, if_pos rfl]; rfl) (by omega) hs (hm.old hob)) ?_
          rintro x h2 ⟨hm2, hx⟩
          have hms : Mod (fun q => q = b) h' h2 := ((Mod.refl (fun q => q = b) h').self _).trans hm2
          have hS2' := hS2.mod hms (notb hS2)
          have nx2 := hms.next
          obtain ⟨c, hc, hrest⟩ : ∃ c : UInt8, x = .int .u8 (c.toNat : Int) ∧ ((∃ n, escM (s.drop (a + 1)) = some (c, n) ∧ h2.get b = rdB s ((a + 1 + n : Nat) : Int) p 0 v ∧ a + 1 + n ≤ s.length) ∨ (escM (s.drop (a + 1)) = none ∧ ∃ a' : Nat, h2.get b = rdB s (a' : Int) p 252 v ∧ a + 1 ≤ a' ∧ a' ≤ s.length)) := by
            cases hesc : escM (s.drop (a + 1)) with
            | none =>
              rw [hesc] at hx
              obtain ⟨⟨c, hc⟩, hx⟩ := hx
              exact ⟨c, hc, .inr ⟨rfl, hx⟩⟩
            | some q => rw [hesc] at hx; exact ⟨q.1, hx.1, .inl ⟨q.2, rfl, hx.2⟩⟩
          subst hc
          obtain ⟨v3, h3, q1, q2, q3, q5⟩ := step h2 (hm.trans hms) nx2 hS2' c
          unfold rdB at hrest
          rcases hrest with ⟨n, hesc, hg2, hle⟩ | ⟨hesc, a', hg2, ha1, ha2⟩
          · rw [hg2] at q5
            simp +contextual (maxSteps := 1000000) only [q1, r0, r2, hg, hg2, q5, ↓wA, wB, wZ, repeatV, RX.evs, spl, over, ones, Ex.ends, evR, oneOf, top, ↓reduceIte, Nat.reduceEqDiff, Nat.reduceLeDiff, Nat.reduceAdd, Nat.reduceSub, Nat.reduceMul, reduceCtorEq, Int.reduceEq, Int.reduceLT, Int.reduceLE, Int.reduceNeg, Int.reduceAdd, Int.reduceSub]
            rw [hesc] at hok
            simp only at hok
            refine ⟨⟨a + 1 + n, 0, bs ++ [c], rfl, hle, by omega, by simp; omega, q3, q2, .inl ⟨rfl, ?_⟩⟩, by omega⟩
            rw [hok, List.drop_drop, Option.map_map]
            congr 1
            funext q
            simp only [Function.comp, List.append_assoc, List.singleton_append, Prod.mk.injEq, true_and]
            omega
          · rw [hg2] at q5
            simp +contextual (maxSteps := 1000000) only [q1, r0, r2, hg, hg2, q5, ↓wA, wB, wZ, repeatV, RX.evs, spl, over, ones, Ex.ends, evR, oneOf, top, ↓reduceIte, Nat.reduceEqDiff, Nat.reduceLeDiff, Nat.reduceAdd, Nat.reduceSub, Nat.reduceMul, reduceCtorEq, Int.reduceEq, Int.reduceLT, Int.reduceLE, Int.reduceNeg, Int.reduceAdd, Int.reduceSub]
            rw [hesc] at hok
            exact ⟨⟨a', 252, bs ++ [c], rfl, ha2, by omega, by simp; omega, q3, q2, .inr ⟨rfl, hok⟩⟩, by omega⟩
        rw [if_neg c2] at hok
        by_cases c3 : s[a] < 32 ∨ s[a] = 127
        · rw [if_pos c3] at hok
          have c3' : (decide (s[a] < 32) || decide (s[a] = 127)) = true := by simpa using c3
          obtain ⟨v3, h3, q1, q2, q3, q5⟩ := step ((h'.set b (.ofL [.str s, .int .i64 ((a + 1 : Nat) : Int), .int .i64 p, .int .i64 0, v] 0 false)).set b (.ofL [.str s, .int .i64 ((a + 1 : Nat) : Int), .int .i64 p, .int .i64 252, v] 0 false)) ((hm.self _).self _) (by rw [next_set, next_set]; exact Nat.le_refl _) (hS2.mod (((Mod.refl (fun q => q = b) h').self _).self _) (notb hS2)) s[a]
          simp only [next_set, get_set, if_true] at q1 q5
          simp +contextual (maxSteps := 1000000) only [q1, r0, r2, hg, g0, g1, e34, e92, e127, l32, c1, c2, c3', w2, q5, List.getElem?_eq_getElem hlt, Int.toNat_natCast, ↓wA, wB, wZ, repeatV, RX.evs, spl, over, ones, Ex.ends, evR, oneOf, top, ↓reduceIte, Nat.reduceEqDiff, Nat.reduceLeDiff, Nat.reduceAdd, Nat.reduceSub, Nat.reduceMul, reduceCtorEq, Int.reduceEq, Int.reduceLT, Int.reduceLE, Int.reduceNeg, Int.reduceAdd, Int.reduceSub]
          exact ⟨⟨a + 1, 252, bs ++ [s[a]], rfl, by omega, by omega, by simp; omega, q3, q2, .inr ⟨rfl, hok⟩⟩, by omega⟩
        · rw [if_neg c3] at hok
          have c3' : (decide (s[a] < 32) || decide (s[a] = 127)) = false := by simpa using c3
          obtain ⟨v3, h3, q1, q2, q3, q5⟩ := step (h'.set b (.ofL [.str s, .int .i64 ((a + 1 : Nat) : Int), .int .i64 p, .int .i64 0, v] 0 false)) (hm.self _) (by rw [next_set]; exact Nat.le_refl _) (hS2.mod ((Mod.refl (fun q => q = b) h').self _) (notb hS2)) s[a]
          simp only [next_set, get_set, if_true] at q1 q5
          simp +contextual (maxSteps := 1000000) only [q1, r0, r2, hg, g0, g1, e34, e92, e127, l32, c1, c2, c3', w2, q5, List.getElem?_eq_getElem hlt, Int.toNat_natCast, ↓wA, wB, wZ, repeatV, RX.evs, spl, over, ones, Ex.ends, evR, oneOf, top, ↓reduceIte, Nat.reduceEqDiff, Nat.reduceLeDiff, Nat.reduceAdd, Nat.reduceSub, Nat.reduceMul, reduceCtorEq, Int.reduceEq, Int.reduceLT, Int.reduceLE, Int.reduceNeg, Int.reduceAdd, Int.reduceSub]
          refine ⟨⟨a + 1, 0, bs ++ [s[a]], rfl, by omega, by omega, by simp; omega, q3, q2, .inl ⟨rfl, ?_⟩⟩, by omega⟩
          rw [hok, Option.map_map]
          congr 1
          funext q
          simp only [Function.comp, List.append_assoc, List.singleton_append, Prod.mk.injEq, true_and]
          omega
      · have g0 : ((a : Int) < (s.length : Int)) = False := eq_false (by omega)
        rw [List.drop_eq_nil_of_le (show s.length ≤ a by omega), textM_nil] at hok
        simp +contextual (maxSteps := 1000000) only [r0, r2, hg, g0, ↓wA, wB, wZ, repeatV, RX.evs, spl, over, ones, Ex.ends, evR, oneOf, top, ↓reduceIte, Nat.reduceEqDiff, Nat.reduceLeDiff, Nat.reduceAdd, Nat.reduceSub, Nat.reduceMul, reduceCtorEq, Int.reduceEq, Int.reduceLT, Int.reduceLE, Int.reduceNeg, Int.reduceAdd, Int.reduceSub]
        exact reftext_tail s p a 0 bs v2 ws v b B h h' hmR hg hp k1 k0 hs hS4 (hm.old hob) hbB (by omega) hw hS2B (.inr ⟨.inr ⟨rfl, by omega⟩, hok⟩) _ (by simp only [r0, ↓wA, wB, wZ, repeatV, RX.evs, spl, over, ones, Ex.ends, evR, oneOf, top, ↓reduceIte, Nat.reduceEqDiff, Nat.reduceLeDiff, Nat.reduceAdd, Nat.reduceSub, Nat.reduceMul, reduceCtorEq, Int.reduceEq, Int.reduceLT, Int.reduceLE, Int.reduceNeg, Int.reduceAdd, Int.reduceSub]) (by simp only [r2, ↓wA, wB, wZ, repeatV, RX.evs, spl, over, ones, Ex.ends, evR, oneOf, top, ↓reduceIte, Nat.reduceEqDiff, Nat.reduceLeDiff, Nat.reduceAdd, Nat.reduceSub, Nat.reduceMul, reduceCtorEq, Int.reduceEq, Int.reduceLT, Int.reduceLE, Int.reduceNeg, Int.reduceAdd, Int.reduceSub]) _ (fun _ _ hr => ⟨trivial, hr⟩)
    · simp +contextual (maxSteps := 1000000) only [r0, r2, hg, ↓wA, wB, wZ, repeatV, RX.evs, spl, over, ones, Ex.ends, evR, oneOf, top, ↓reduceIte, Nat.reduceEqDiff, Nat.reduceLeDiff, Nat.reduceAdd, Nat.reduceSub, Nat.reduceMul, reduceCtorEq, Int.reduceEq, Int.reduceLT, Int.reduceLE, Int.reduceNeg, Int.reduceAdd, Int.reduceSub]
      exact reftext_tail s p a 252 bs v2 ws v b B h h' hmR hg hp k1 k0 hs hS4 (hm.old hob) hbB (by omega) hw hS2B (.inr ⟨.inl rfl, hok⟩) _ (by simp only [r0, ↓wA, wB, wZ, repeatV, RX.evs, spl, over, ones, Ex.ends, evR, oneOf, top, ↓reduceIte, Nat.reduceEqDiff, Nat.reduceLeDiff, Nat.reduceAdd, Nat.reduceSub, Nat.reduceMul, reduceCtorEq, Int.reduceEq, Int.reduceLT, Int.reduceLE, Int.reduceNeg, Int.reduceAdd, Int.reduceSub]) (by simp only [r2, ↓wA, wB, wZ, repeatV, RX.evs, spl, over, ones, Ex.ends, evR, oneOf, top, ↓reduceIte, Nat.reduceEqDiff, Nat.reduceLeDiff, Nat.reduceAdd, Nat.reduceSub, Nat.reduceMul, reduceCtorEq, Int.reduceEq, Int.reduceLT, Int.reduceLE, Int.reduceNeg, Int.reduceAdd, Int.reduceSub]) _ (fun _ _ hr => ⟨trivial, hr⟩)
end Go.Proofs.YthcgccnbhdociaaDoor

namespace Go.Proofs.YthcgccnbhdociaaDoor
open Go Am
set_option linter.unusedSectionVars false
set_option linter.unusedSimpArgs false
set_option linter.unusedVariables false

theorem refsign_ctr (s : List UInt8) (p : Nat) (ws : List Wd) (v : V) (b : Pa) (B : Nat) (h : Heap) (hb : h.get b = rdB s p p 0 v) (hp : p < s.length) (hs : s.length ≤ 100000) (hS : SlO B h 4 v ws.length (wdsV ws)) (hob : Old h b) (hbB : unPa b < B) (hB : B ≤ h.next) (hw : ws.length ≤ 90000) :
    Ctr Tryd.prog 33 [.ptr b 0] h fun x h' => ROut s p b B ws h (signM (s.drop p)) h' := by
  refine c33_ctr rfl (wpK_of ?_)
  unfold c33
  unfold rdB at hb
  simp +contextual only [↓wA, wB, wZ, repeatV, RX.evs, spl, over, ones, Ex.ends, evR, oneOf, top, ↓reduceIte, Nat.reduceEqDiff, Nat.reduceLeDiff, Nat.reduceAdd, Nat.reduceSub, Nat.reduceMul, reduceCtorEq, Int.reduceEq, Int.reduceLT, Int.reduceLE, Int.reduceNeg, Int.reduceAdd, Int.reduceSub]
  refine callK_intro (refsigns_ctr _) ?_
  rintro x hp1 ⟨rfl, rfl⟩
  simp +contextual only [↓wA, wB, wZ, repeatV, RX.evs, spl, over, ones, Ex.ends, evR, oneOf, top, ↓reduceIte, Nat.reduceEqDiff, Nat.reduceLeDiff, Nat.reduceAdd, Nat.reduceSub, Nat.reduceMul, reduceCtorEq, Int.reduceEq, Int.reduceLT, Int.reduceLE, Int.reduceNeg, Int.reduceAdd, Int.reduceSub]
  have c17 : ((17 : Nat) : Int) = 17 := rfl
  have two : ∀ t ∈ signList, t.length ≤ 2 := by decide
  have hx : Ext h (h.new (.ofL (strsV signList) 0 false)) := (Ext.refl h).new _
  have hgb : (h.new (.ofL (strsV signList) 0 false)).get b = .ofL [.str s, .int .i64 p, .int .i64 p, .int .i64 0, v] 0 false := by rw [hx.get _ hob, hb]
  have nb1 : (b = pa h.next) = False := new_ne hob (by omega)
  have bn1 : (pa h.next = b) = False := by rw [← nb1]; exact propext eq_comm
  refine loopK_intro (fun r h' => r 0 = .ptr b 0 ∧ r 2 = .slice (pa h.next) 0 17 17 ∧ ∃ i : Nat, i ≤ 17 ∧ r 3 = .int .i64 i ∧ h' = h.new (.ofL (strsV signList) 0 false) ∧
    signList.find? (·.isPrefixOf (s.drop p)) = (signList.drop i).find? (·.isPrefixOf (s.drop p))) (fun r h' => 17 - (r 3).toN) ?_ ?_
  · exact ⟨by simp only [↓wA, wB, wZ, repeatV, RX.evs, spl, over, ones, Ex.ends, evR, oneOf, top, ↓reduceIte, Nat.reduceEqDiff, Nat.reduceLeDiff, Nat.reduceAdd, Nat.reduceSub, Nat.reduceMul, reduceCtorEq, Int.reduceEq, Int.reduceLT, Int.reduceLE, Int.reduceNeg, Int.reduceAdd, Int.reduceSub], by simp only [↓wA, wB, wZ, repeatV, RX.evs, spl, over, ones, Ex.ends, evR, oneOf, top, ↓reduceIte, Nat.reduceEqDiff, Nat.reduceLeDiff, Nat.reduceAdd, Nat.reduceSub, Nat.reduceMul, reduceCtorEq, Int.reduceEq, Int.reduceLT, Int.reduceLE, Int.reduceNeg, Int.reduceAdd, Int.reduceSub], 0, by omega, by simp only [↓wA, wB, wZ, repeatV, RX.evs, spl, over, ones, Ex.ends, evR, oneOf, top, ↓reduceIte, Nat.reduceEqDiff, Nat.reduceLeDiff, Nat.reduceAdd, Nat.reduceSub, Nat.reduceMul, reduceCtorEq, Int.reduceEq, Int.reduceLT, Int.reduceLE, Int.reduceNeg, Int.reduceAdd, Int.reduceSub]; rfl, rfl, rfl⟩
  · rintro r h' ⟨r0, r2, i, hi, r3, rfl, hfind⟩
    unfold c33l1
    by_cases hlt' : i < 17
    · have g0 : ((i : Int) < 17) = True := eq_true (by omega)
      have g1 : (0 ≤ (i : Int)) = True := eq_true (by omega)
      rw [find_step _ hlt'] at hfind
      have hlt2 : i < signList.length := hlt'
      have hsg : (strsV signList)[i]? = some (.str (signList[i]'hlt')) := strsV_get hlt2
      have hlen := two _ (List.getElem_mem (h := hlt2))
      simp +contextual only [c17, r0, r2, r3, g0, g1, nb1, bn1, Int.toNat_natCast, Nat.mul_one, hsg, ↓wA, wB, wZ, repeatV, RX.evs, spl, over, ones, Ex.ends, evR, oneOf, top, ↓reduceIte, Nat.reduceEqDiff, Nat.reduceLeDiff, Nat.reduceAdd, Nat.reduceSub, Nat.reduceMul, reduceCtorEq, Int.reduceEq, Int.reduceLT, Int.reduceLE, Int.reduceNeg, Int.reduceAdd, Int.reduceSub]
      refine callK_pure (starts_pure s _ (p : Int) [.int .i64 p, .int .i64 0, v] b 0 false _ hgb (by omega) (by omega) hs (by omega)) ?_
      rw [Int.toNat_natCast]
      cases hpre : (signList[i]'hlt').isPrefixOf (s.drop p) with
      | true =>
        rw [hpre, if_pos rfl] at hfind
        have hl2 : (signList[i]'hlt').length ≤ s.length - p := by
          rw [List.isPrefixOf_iff_prefix] at hpre
          have := hpre.length_le
          rwa [List.length_drop] at this
        have w3 : IntKind.i64.wrap ((p : Int) + ((signList[i]'hlt').length : Int)) = ((p + (signList[i]'hlt').length : Nat) : Int) := by rw [wrap_i64 (by omega) (by omega)]; rfl
        simp +contextual (maxSteps := 1000000) only [c17, r0, r2, r3, g0, g1, w3, hgb, nb1, bn1, hb, Int.toNat_natCast, Nat.mul_one, hsg, ↓wA, wB, wZ, repeatV, RX.evs, spl, over, ones, Ex.ends, evR, oneOf, top, ↓reduceIte, Nat.reduceEqDiff, Nat.reduceLeDiff, Nat.reduceAdd, Nat.reduceSub, Nat.reduceMul, reduceCtorEq, Int.reduceEq, Int.reduceLT, Int.reduceLE, Int.reduceNeg, Int.reduceAdd, Int.reduceSub]
        refine callK_intro (add_ctr s (p + (signList[i]'hlt').length) p 0 7 0 (signList[i]'hlt') ws v b B _ (by rw [get_set, if_pos rfl]; rfl) (slo_setB (hS.ext hx) hbB _) (hx.old hob) hbB (by rw [next_set, next_new]; omega) (by omega)) ?_
        rintro x h2 ⟨hm2, v2, q1, q2⟩
        simp +contextual only [r0, ↓wA, wB, wZ, repeatV, RX.evs, spl, over, ones, Ex.ends, evR, oneOf, top, ↓reduceIte, Nat.reduceEqDiff, Nat.reduceLeDiff, Nat.reduceAdd, Nat.reduceSub, Nat.reduceMul, reduceCtorEq, Int.reduceEq, Int.reduceLT, Int.reduceLE, Int.reduceNeg, Int.reduceAdd, Int.reduceSub]
        unfold signM
        rw [hfind]
        exact ⟨((hx.mod (RM b B)).set (fun _ => .inl rfl) _).trans hm2, v2, q1, by show p + (signList[i]'hlt').length ≤ s.length; omega, q2⟩
      | false =>
        rw [hpre, if_neg Bool.false_ne_true] at hfind
        have w3 : IntKind.i64.wrap ((i : Int) + 1) = ((i + 1 : Nat) : Int) := by rw [wrap_i64 (by omega) (by omega)]; rfl
        simp +contextual only [c17, r0, r2, r3, g0, g1, w3, hb, ↓wA, wB, wZ, repeatV, RX.evs, spl, over, ones, Ex.ends, evR, oneOf, top, ↓reduceIte, Nat.reduceEqDiff, Nat.reduceLeDiff, Nat.reduceAdd, Nat.reduceSub, Nat.reduceMul, reduceCtorEq, Int.reduceEq, Int.reduceLT, Int.reduceLE, Int.reduceNeg, Int.reduceAdd, Int.reduceSub]
        exact ⟨⟨i + 1, by omega, rfl, hfind⟩, by omega⟩
    · obtain rfl : i = 17 := by omega
      have hnone : signList.find? (·.isPrefixOf (s.drop p)) = none := by rw [hfind]; rfl
      have g0 : ((17 : Int) < 17) = False := eq_false (by omega)
      simp +contextual only [c17, r0, r2, r3, g0, hgb, nb1, bn1, hb, ↓wA, wB, wZ, repeatV, RX.evs, spl, over, ones, Ex.ends, evR, oneOf, top, ↓reduceIte, Nat.reduceEqDiff, Nat.reduceLeDiff, Nat.reduceAdd, Nat.reduceSub, Nat.reduceMul, reduceCtorEq, Int.reduceEq, Int.reduceLT, Int.reduceLE, Int.reduceNeg, Int.reduceAdd, Int.reduceSub]
      unfold signM
      rw [hnone]
      exact ⟨(hx.mod (RM b B)).set (fun _ => .inl rfl) _, v, by decide, (p : Int), by rw [get_set, if_pos rfl]; rfl⟩
end Go.Proofs.YthcgccnbhdociaaDoor

namespace Go.Proofs.YthcgccnbhdociaaDoor
open Go Am
set_option linter.unusedSectionVars false
set_option linter.unusedSimpArgs false
set_option linter.unusedVariables false

def c11chk : RC := match c11l1 with
  | .seq _ (.seq (.block _ (.seq _ (.seq _ (.seq _ t)))) _) => t
  | c => c
def c11D : RC := match c11l1 with
  | .seq _ (.seq (.block _ (.seq _ (.seq _ (.seq (.block _ t) _)))) _) => t
  | c => c

theorem signM_quote (r : List UInt8) : signM (39 :: r) = .error 251 := by
  unfold signM
  have h : ∀ L : List (List UInt8), (∀ t ∈ L, t ≠ [] ∧ t.head? ≠ some 39) → L.find? (·.isPrefixOf (39 :: r)) = none := by
    intro L hL
    rw [List.find?_eq_none]
    intro t ht
    obtain ⟨h1, h2⟩ := hL t ht
    cases t with
    | nil => exact absurd rfl h1
    | cons c t =>
      simp only [List.head?_cons, ne_eq, Option.some.injEq] at h2
      simp [List.isPrefixOf, h2]
  rw [h signList (by decide)]
theorem nextM_var (r : List UInt8) : nextM (39 :: r) = varM r := by
  unfold varM
  simp only [nextM]
  rw [if_neg (by decide), if_neg (by decide), if_neg (by decide), if_neg (by decide)]
  cases h : headSmall r with
  | true => rw [if_pos (by simp), if_pos rfl]
  | false => rw [if_neg (by simp), if_neg (by simp), signM_quote]

theorem disp (s : List UInt8) (p : Nat) (ws : List Wd) (v : V) (b : Pa) (B : Nat) (h : Heap) (hb : h.get b = rdB s p p 0 v) (hp : p < s.length) (hs : s.length ≤ 90000) (hS : SlO B h 4 v ws.length (wdsV ws)) (hob : Old h b) (hbB : unPa b < B) (hB : B ≤ h.next) (hw : ws.length ≤ 90000)
    (r : RF) (r4 : r 4 = .ptr b 0) (r5 : r 5 = .int .u8 (s[p].toNat : Int)) (ks : List KS) (Q : Ex → RF → Heap → Prop)
    (hQ : ∀ r' h', r' 0 = r 0 → r' 3 = r 3 → r' 4 = .ptr b 0 → ROut s p b B ws h (nextM (s.drop p)) h' → wpK Tryd.prog ks .normal r' h' Q) :
    wpK Tryd.prog (.c c11D :: ks) .normal r h Q := by
  unfold c11D c11l1
  have hd := drop_cons hp
  have e95 : ((s[p].toNat : Int) = 95) = (s[p] = 95) := u8_eq _ 95 (by omega)
  have e39 : ((s[p].toNat : Int) = 39) = (s[p] = 39) := u8_eq _ 39 (by omega)
  have e34 : ((s[p].toNat : Int) = 34) = (s[p] = 34) := u8_eq _ 34 (by omega)
  rw [hd] at hQ
  simp +contextual only [r4, r5, ↓wA, wB, wZ, repeatV, RX.evs, spl, over, ones, Ex.ends, evR, oneOf, top, ↓reduceIte, Nat.reduceEqDiff, Nat.reduceLeDiff, Nat.reduceAdd, Nat.reduceSub, Nat.reduceMul, reduceCtorEq, Int.reduceEq, Int.reduceLT, Int.reduceLE, Int.reduceNeg, Int.reduceAdd, Int.reduceSub]
  refine callK_pure (within_pure _ _ _ _) ?_
  rw [show withinB (s[p].toNat : Int) 97 122 = smallB (s[p].toNat : Int) from rfl]
  have fin : ∀ (f : FuncId) (res : Res), res = nextM (s[p] :: s.drop (p + 1)) → True := fun _ _ _ => trivial
  have nx3 : (smallB (s[p].toNat : Int) || decide (s[p] = 95)) = true → nextM (s[p] :: s.drop (p + 1)) = nameM 3 (s.drop p) ∧ greatB (s[p].toNat : Int) = false ∧ ltr s[p] = true := by
    intro q
    rw [Bool.or_eq_true, decide_eq_true_eq] at q
    have hdig : dig s[p] = false := by
      rcases q with q | q
      · unfold smallB at q
        simp only [Bool.and_eq_true, decide_eq_true_eq] at q
        unfold dig digitB
        rw [show decide ((s[p].toNat : Int) ≤ 57) = false from decide_eq_false (by omega), Bool.and_false]
      · rw [q]; decide
    have h34 : ¬ s[p] = 34 := by
      rcases q with q | q
      · intro e; rw [e] at q; revert q; decide
      · rw [q]; decide
    refine ⟨?_, ?_, ?_⟩
    · rw [hd]
      simp only [nextM]
      rw [if_neg (by rw [hdig]; exact Bool.false_ne_true), if_neg h34, if_pos (by rw [Bool.or_eq_true, decide_eq_true_eq]; exact q)]
    · rcases q with q | q
      · unfold smallB at q
        simp only [Bool.and_eq_true, decide_eq_true_eq] at q
        unfold greatB
        rw [show decide ((s[p].toNat : Int) ≤ 90) = false from decide_eq_false (by omega), Bool.and_false]
      · rw [q]; decide
    · exact q.elim small_ltr under_ltr
  cases h1 : smallB (s[p].toNat : Int) with
  | true =>
    obtain ⟨en, hg, hl⟩ := nx3 (by rw [h1]; rfl)
    rw [en] at hQ
    simp +contextual only [r4, r5, ↓wA, wB, wZ, repeatV, RX.evs, spl, over, ones, Ex.ends, evR, oneOf, top, ↓reduceIte, Nat.reduceEqDiff, Nat.reduceLeDiff, Nat.reduceAdd, Nat.reduceSub, Nat.reduceMul, reduceCtorEq, Int.reduceEq, Int.reduceLT, Int.reduceLE, Int.reduceNeg, Int.reduceAdd, Int.reduceSub]
    refine callK_intro (refname_ctr s p 3 ws v b B h hb hp (by omega) hS hob hbB hB hw (.inl ⟨rfl, hg⟩) hl) ?_
    rintro x h2 hR
    simp +contextual only [r4, ↓wA, wB, wZ, repeatV, RX.evs, spl, over, ones, Ex.ends, evR, oneOf, top, ↓reduceIte, Nat.reduceEqDiff, Nat.reduceLeDiff, Nat.reduceAdd, Nat.reduceSub, Nat.reduceMul, reduceCtorEq, Int.reduceEq, Int.reduceLT, Int.reduceLE, Int.reduceNeg, Int.reduceAdd, Int.reduceSub]
    exact hQ _ _ (by simp only [↓wA, wB, wZ, repeatV, RX.evs, spl, over, ones, Ex.ends, evR, oneOf, top, ↓reduceIte, Nat.reduceEqDiff, Nat.reduceLeDiff, Nat.reduceAdd, Nat.reduceSub, Nat.reduceMul, reduceCtorEq, Int.reduceEq, Int.reduceLT, Int.reduceLE, Int.reduceNeg, Int.reduceAdd, Int.reduceSub]) (by simp only [↓wA, wB, wZ, repeatV, RX.evs, spl, over, ones, Ex.ends, evR, oneOf, top, ↓reduceIte, Nat.reduceEqDiff, Nat.reduceLeDiff, Nat.reduceAdd, Nat.reduceSub, Nat.reduceMul, reduceCtorEq, Int.reduceEq, Int.reduceLT, Int.reduceLE, Int.reduceNeg, Int.reduceAdd, Int.reduceSub]) (by simp only [r4, ↓wA, wB, wZ, repeatV, RX.evs, spl, over, ones, Ex.ends, evR, oneOf, top, ↓reduceIte, Nat.reduceEqDiff, Nat.reduceLeDiff, Nat.reduceAdd, Nat.reduceSub, Nat.reduceMul, reduceCtorEq, Int.reduceEq, Int.reduceLT, Int.reduceLE, Int.reduceNeg, Int.reduceAdd, Int.reduceSub]) hR
  | false =>
    simp +contextual only [r4, r5, ↓wA, wB, wZ, repeatV, RX.evs, spl, over, ones, Ex.ends, evR, oneOf, top, ↓reduceIte, Nat.reduceEqDiff, Nat.reduceLeDiff, Nat.reduceAdd, Nat.reduceSub, Nat.reduceMul, reduceCtorEq, Int.reduceEq, Int.reduceLT, Int.reduceLE, Int.reduceNeg, Int.reduceAdd, Int.reduceSub]
    refine callK_pure (within_pure _ _ _ _) ?_
    rw [show withinB (s[p].toNat : Int) 65 90 = greatB (s[p].toNat : Int) from rfl]
    cases h2 : greatB (s[p].toNat : Int) with
    | true =>
      have hg := h2
      unfold greatB at hg
      simp only [Bool.and_eq_true, decide_eq_true_eq] at hg
      have en : nextM (s[p] :: s.drop (p + 1)) = nameM 4 (s.drop p) := by
        have hdig : dig s[p] = false := by
          unfold dig digitB
          rw [show decide ((s[p].toNat : Int) ≤ 57) = false from decide_eq_false (by omega), Bool.and_false]
        have h34 : ¬ s[p] = 34 := by intro e; rw [e] at hg; revert hg; decide
        have h95 : ¬ s[p] = 95 := by intro e; rw [e] at hg; revert hg; decide
        rw [hd]
        simp only [nextM]
        rw [if_neg (by rw [hdig]; exact Bool.false_ne_true), if_neg h34, if_neg (by rw [h1]; simpa using h95), if_pos h2]
      rw [en] at hQ
      simp +contextual only [r4, r5, ↓wA, wB, wZ, repeatV, RX.evs, spl, over, ones, Ex.ends, evR, oneOf, top, ↓reduceIte, Nat.reduceEqDiff, Nat.reduceLeDiff, Nat.reduceAdd, Nat.reduceSub, Nat.reduceMul, reduceCtorEq, Int.reduceEq, Int.reduceLT, Int.reduceLE, Int.reduceNeg, Int.reduceAdd, Int.reduceSub]
      refine callK_intro (refname_ctr s p 4 ws v b B h hb hp (by omega) hS hob hbB hB hw (.inr ⟨rfl, h2⟩) (great_ltr h2)) ?_
      rintro x h2 hR
      simp +contextual only [r4, ↓wA, wB, wZ, repeatV, RX.evs, spl, over, ones, Ex.ends, evR, oneOf, top, ↓reduceIte, Nat.reduceEqDiff, Nat.reduceLeDiff, Nat.reduceAdd, Nat.reduceSub, Nat.reduceMul, reduceCtorEq, Int.reduceEq, Int.reduceLT, Int.reduceLE, Int.reduceNeg, Int.reduceAdd, Int.reduceSub]
      exact hQ _ _ (by simp only [↓wA, wB, wZ, repeatV, RX.evs, spl, over, ones, Ex.ends, evR, oneOf, top, ↓reduceIte, Nat.reduceEqDiff, Nat.reduceLeDiff, Nat.reduceAdd, Nat.reduceSub, Nat.reduceMul, reduceCtorEq, Int.reduceEq, Int.reduceLT, Int.reduceLE, Int.reduceNeg, Int.reduceAdd, Int.reduceSub]) (by simp only [↓wA, wB, wZ, repeatV, RX.evs, spl, over, ones, Ex.ends, evR, oneOf, top, ↓reduceIte, Nat.reduceEqDiff, Nat.reduceLeDiff, Nat.reduceAdd, Nat.reduceSub, Nat.reduceMul, reduceCtorEq, Int.reduceEq, Int.reduceLT, Int.reduceLE, Int.reduceNeg, Int.reduceAdd, Int.reduceSub]) (by simp only [r4, ↓wA, wB, wZ, repeatV, RX.evs, spl, over, ones, Ex.ends, evR, oneOf, top, ↓reduceIte, Nat.reduceEqDiff, Nat.reduceLeDiff, Nat.reduceAdd, Nat.reduceSub, Nat.reduceMul, reduceCtorEq, Int.reduceEq, Int.reduceLT, Int.reduceLE, Int.reduceNeg, Int.reduceAdd, Int.reduceSub]) hR
    | false =>
      by_cases h3 : s[p] = 95
      · obtain ⟨en, hg, hl⟩ := nx3 (by rw [h3]; rfl)
        rw [en] at hQ
        have h3' := eq_true h3
        simp +contextual only [r4, r5, e95, h3', ↓wA, wB, wZ, repeatV, RX.evs, spl, over, ones, Ex.ends, evR, oneOf, top, ↓reduceIte, Nat.reduceEqDiff, Nat.reduceLeDiff, Nat.reduceAdd, Nat.reduceSub, Nat.reduceMul, reduceCtorEq, Int.reduceEq, Int.reduceLT, Int.reduceLE, Int.reduceNeg, Int.reduceAdd, Int.reduceSub]
        refine callK_intro (refname_ctr s p 3 ws v b B h hb hp (by omega) hS hob hbB hB hw (.inl ⟨rfl, hg⟩) hl) ?_
        rintro x h2 hR
        simp +contextual only [r4, ↓wA, wB, wZ, repeatV, RX.evs, spl, over, ones, Ex.ends, evR, oneOf, top, ↓reduceIte, Nat.reduceEqDiff, Nat.reduceLeDiff, Nat.reduceAdd, Nat.reduceSub, Nat.reduceMul, reduceCtorEq, Int.reduceEq, Int.reduceLT, Int.reduceLE, Int.reduceNeg, Int.reduceAdd, Int.reduceSub]
        exact hQ _ _ (by simp only [↓wA, wB, wZ, repeatV, RX.evs, spl, over, ones, Ex.ends, evR, oneOf, top, ↓reduceIte, Nat.reduceEqDiff, Nat.reduceLeDiff, Nat.reduceAdd, Nat.reduceSub, Nat.reduceMul, reduceCtorEq, Int.reduceEq, Int.reduceLT, Int.reduceLE, Int.reduceNeg, Int.reduceAdd, Int.reduceSub]) (by simp only [↓wA, wB, wZ, repeatV, RX.evs, spl, over, ones, Ex.ends, evR, oneOf, top, ↓reduceIte, Nat.reduceEqDiff, Nat.reduceLeDiff, Nat.reduceAdd, Nat.reduceSub, Nat.reduceMul, reduceCtorEq, Int.reduceEq, Int.reduceLT, Int.reduceLE, Int.reduceNeg, Int.reduceAdd, Int.reduceSub]) (by simp only [r4, ↓wA, wB, wZ, repeatV, RX.evs, spl, over, ones, Ex.ends, evR, oneOf, top, ↓reduceIte, Nat.reduceEqDiff, Nat.reduceLeDiff, Nat.reduceAdd, Nat.reduceSub, Nat.reduceMul, reduceCtorEq, Int.reduceEq, Int.reduceLT, Int.reduceLE, Int.reduceNeg, Int.reduceAdd, Int.reduceSub]) hR
      · simp +contextual only [r4, r5, e95, h3, ↓wA, wB, wZ, repeatV, RX.evs, spl, over, ones, Ex.ends, evR, oneOf, top, ↓reduceIte, Nat.reduceEqDiff, Nat.reduceLeDiff, Nat.reduceAdd, Nat.reduceSub, Nat.reduceMul, reduceCtorEq, Int.reduceEq, Int.reduceLT, Int.reduceLE, Int.reduceNeg, Int.reduceAdd, Int.reduceSub]
        refine callK_pure (within_pure _ _ _ _) ?_
        rw [show withinB (s[p].toNat : Int) 48 57 = dig s[p] from rfl]
        have hsm : ¬ (smallB (s[p].toNat : Int) || decide (s[p] = 95)) = true := by rw [h1]; simpa using h3
        cases h4 : dig s[p] with
        | true =>
          have en : nextM (s[p] :: s.drop (p + 1)) = numM (s.drop p) := by rw [hd]; simp only [nextM]; rw [if_pos h4]
          rw [en] at hQ
          simp +contextual only [r4, r5, ↓wA, wB, wZ, repeatV, RX.evs, spl, over, ones, Ex.ends, evR, oneOf, top, ↓reduceIte, Nat.reduceEqDiff, Nat.reduceLeDiff, Nat.reduceAdd, Nat.reduceSub, Nat.reduceMul, reduceCtorEq, Int.reduceEq, Int.reduceLT, Int.reduceLE, Int.reduceNeg, Int.reduceAdd, Int.reduceSub]
          refine callK_intro (refnum_ctr s p ws v b B h hb hp (by omega) hS hob hbB hB hw) ?_
          rintro x h2 hR
          simp +contextual only [r4, ↓wA, wB, wZ, repeatV, RX.evs, spl, over, ones, Ex.ends, evR, oneOf, top, ↓reduceIte, Nat.reduceEqDiff, Nat.reduceLeDiff, Nat.reduceAdd, Nat.reduceSub, Nat.reduceMul, reduceCtorEq, Int.reduceEq, Int.reduceLT, Int.reduceLE, Int.reduceNeg, Int.reduceAdd, Int.reduceSub]
          exact hQ _ _ (by simp only [↓wA, wB, wZ, repeatV, RX.evs, spl, over, ones, Ex.ends, evR, oneOf, top, ↓reduceIte, Nat.reduceEqDiff, Nat.reduceLeDiff, Nat.reduceAdd, Nat.reduceSub, Nat.reduceMul, reduceCtorEq, Int.reduceEq, Int.reduceLT, Int.reduceLE, Int.reduceNeg, Int.reduceAdd, Int.reduceSub]) (by simp only [↓wA, wB, wZ, repeatV, RX.evs, spl, over, ones, Ex.ends, evR, oneOf, top, ↓reduceIte, Nat.reduceEqDiff, Nat.reduceLeDiff, Nat.reduceAdd, Nat.reduceSub, Nat.reduceMul, reduceCtorEq, Int.reduceEq, Int.reduceLT, Int.reduceLE, Int.reduceNeg, Int.reduceAdd, Int.reduceSub]) (by simp only [r4, ↓wA, wB, wZ, repeatV, RX.evs, spl, over, ones, Ex.ends, evR, oneOf, top, ↓reduceIte, Nat.reduceEqDiff, Nat.reduceLeDiff, Nat.reduceAdd, Nat.reduceSub, Nat.reduceMul, reduceCtorEq, Int.reduceEq, Int.reduceLT, Int.reduceLE, Int.reduceNeg, Int.reduceAdd, Int.reduceSub]) hR
        | false =>
          have h4' : ¬ dig s[p] = true := by rw [h4]; exact Bool.false_ne_true
          have h2' : ¬ greatB (s[p].toNat : Int) = true := by rw [h2]; exact Bool.false_ne_true
          by_cases h5 : s[p] = 39
          · have en : nextM (s[p] :: s.drop (p + 1)) = varM (s.drop (p + 1)) := by rw [h5]; exact nextM_var _
            rw [en] at hQ
            have h5' := eq_true h5
            simp +contextual only [r4, r5, e39, h5', ↓wA, wB, wZ, repeatV, RX.evs, spl, over, ones, Ex.ends, evR, oneOf, top, ↓reduceIte, Nat.reduceEqDiff, Nat.reduceLeDiff, Nat.reduceAdd, Nat.reduceSub, Nat.reduceMul, reduceCtorEq, Int.reduceEq, Int.reduceLT, Int.reduceLE, Int.reduceNeg, Int.reduceAdd, Int.reduceSub]
            refine callK_intro (refvar_ctr s p ws v b B h hb hp (by omega) hS hob hbB hB hw) ?_
            rintro x h2 hR
            simp +contextual only [r4, ↓wA, wB, wZ, repeatV, RX.evs, spl, over, ones, Ex.ends, evR, oneOf, top, ↓reduceIte, Nat.reduceEqDiff, Nat.reduceLeDiff, Nat.reduceAdd, Nat.reduceSub, Nat.reduceMul, reduceCtorEq, Int.reduceEq, Int.reduceLT, Int.reduceLE, Int.reduceNeg, Int.reduceAdd, Int.reduceSub]
            exact hQ _ _ (by simp only [↓wA, wB, wZ, repeatV, RX.evs, spl, over, ones, Ex.ends, evR, oneOf, top, ↓reduceIte, Nat.reduceEqDiff, Nat.reduceLeDiff, Nat.reduceAdd, Nat.reduceSub, Nat.reduceMul, reduceCtorEq, Int.reduceEq, Int.reduceLT, Int.reduceLE, Int.reduceNeg, Int.reduceAdd, Int.reduceSub]) (by simp only [↓wA, wB, wZ, repeatV, RX.evs, spl, over, ones, Ex.ends, evR, oneOf, top, ↓reduceIte, Nat.reduceEqDiff, Nat.reduceLeDiff, Nat.reduceAdd, Nat.reduceSub, Nat.reduceMul, reduceCtorEq, Int.reduceEq, Int.reduceLT, Int.reduceLE, Int.reduceNeg, Int.reduceAdd, Int.reduceSub]) (by simp only [r4, ↓wA, wB, wZ, repeatV, RX.evs, spl, over, ones, Ex.ends, evR, oneOf, top, ↓reduceIte, Nat.reduceEqDiff, Nat.reduceLeDiff, Nat.reduceAdd, Nat.reduceSub, Nat.reduceMul, reduceCtorEq, Int.reduceEq, Int.reduceLT, Int.reduceLE, Int.reduceNeg, Int.reduceAdd, Int.reduceSub]) hR
          · by_cases h6 : s[p] = 34
            · have en : nextM (s[p] :: s.drop (p + 1)) = strM (s.drop (p + 1)) := by simp only [nextM]; rw [if_neg h4', if_pos h6]
              rw [en] at hQ
              have h6' := eq_true h6
              simp +contextual only [r4, r5, e39, e34, h5, h6', ↓wA, wB, wZ, repeatV, RX.evs, spl, over, ones, Ex.ends, evR, oneOf, top, ↓reduceIte, Nat.reduceEqDiff, Nat.reduceLeDiff, Nat.reduceAdd, Nat.reduceSub, Nat.reduceMul, reduceCtorEq, Int.reduceEq, Int.reduceLT, Int.reduceLE, Int.reduceNeg, Int.reduceAdd, Int.reduceSub]
              refine callK_intro (reftext_ctr s p ws v b B h hb hp (by omega) hS hob hbB hB hw) ?_
              rintro x h2 hR
              simp +contextual only [r4, ↓wA, wB, wZ, repeatV, RX.evs, spl, over, ones, Ex.ends, evR, oneOf, top, ↓reduceIte, Nat.reduceEqDiff, Nat.reduceLeDiff, Nat.reduceAdd, Nat.reduceSub, Nat.reduceMul, reduceCtorEq, Int.reduceEq, Int.reduceLT, Int.reduceLE, Int.reduceNeg, Int.reduceAdd, Int.reduceSub]
              exact hQ _ _ (by simp only [↓wA, wB, wZ, repeatV, RX.evs, spl, over, ones, Ex.ends, evR, oneOf, top, ↓reduceIte, Nat.reduceEqDiff, Nat.reduceLeDiff, Nat.reduceAdd, Nat.reduceSub, Nat.reduceMul, reduceCtorEq, Int.reduceEq, Int.reduceLT, Int.reduceLE, Int.reduceNeg, Int.reduceAdd, Int.reduceSub]) (by simp only [↓wA, wB, wZ, repeatV, RX.evs, spl, over, ones, Ex.ends, evR, oneOf, top, ↓reduceIte, Nat.reduceEqDiff, Nat.reduceLeDiff, Nat.reduceAdd, Nat.reduceSub, Nat.reduceMul, reduceCtorEq, Int.reduceEq, Int.reduceLT, Int.reduceLE, Int.reduceNeg, Int.reduceAdd, Int.reduceSub]) (by simp only [r4, ↓wA, wB, wZ, repeatV, RX.evs, spl, over, ones, Ex.ends, evR, oneOf, top, ↓reduceIte, Nat.reduceEqDiff, Nat.reduceLeDiff, Nat.reduceAdd, Nat.reduceSub, Nat.reduceMul, reduceCtorEq, Int.reduceEq, Int.reduceLT, Int.reduceLE, Int.reduceNeg, Int.reduceAdd, Int.reduceSub]) hR
            · have en : nextM (s[p] :: s.drop (p + 1)) = signM (s.drop p) := by rw [hd]; simp only [nextM]; rw [if_neg h4', if_neg h6, if_neg hsm, if_neg h2', if_neg (fun q => h5 q.1)]
              rw [en] at hQ
              simp +contextual only [r4, r5, e39, e34, h5, h6, ↓wA, wB, wZ, repeatV, RX.evs, spl, over, ones, Ex.ends, evR, oneOf, top, ↓reduceIte, Nat.reduceEqDiff, Nat.reduceLeDiff, Nat.reduceAdd, Nat.reduceSub, Nat.reduceMul, reduceCtorEq, Int.reduceEq, Int.reduceLT, Int.reduceLE, Int.reduceNeg, Int.reduceAdd, Int.reduceSub]
              refine callK_intro (refsign_ctr s p ws v b B h hb hp (by omega) hS hob hbB hB hw) ?_
              rintro x h2 hR
              simp +contextual only [r4, ↓wA, wB, wZ, repeatV, RX.evs, spl, over, ones, Ex.ends, evR, oneOf, top, ↓reduceIte, Nat.reduceEqDiff, Nat.reduceLeDiff, Nat.reduceAdd, Nat.reduceSub, Nat.reduceMul, reduceCtorEq, Int.reduceEq, Int.reduceLT, Int.reduceLE, Int.reduceNeg, Int.reduceAdd, Int.reduceSub]
              exact hQ _ _ (by simp only [↓wA, wB, wZ, repeatV, RX.evs, spl, over, ones, Ex.ends, evR, oneOf, top, ↓reduceIte, Nat.reduceEqDiff, Nat.reduceLeDiff, Nat.reduceAdd, Nat.reduceSub, Nat.reduceMul, reduceCtorEq, Int.reduceEq, Int.reduceLT, Int.reduceLE, Int.reduceNeg, Int.reduceAdd, Int.reduceSub]) (by simp only [↓wA, wB, wZ, repeatV, RX.evs, spl, over, ones, Ex.ends, evR, oneOf, top, ↓reduceIte, Nat.reduceEqDiff, Nat.reduceLeDiff, Nat.reduceAdd, Nat.reduceSub, Nat.reduceMul, reduceCtorEq, Int.reduceEq, Int.reduceLT, Int.reduceLE, Int.reduceNeg, Int.reduceAdd, Int.reduceSub]) (by simp only [r4, ↓wA, wB, wZ, repeatV, RX.evs, spl, over, ones, Ex.ends, evR, oneOf, top, ↓reduceIte, Nat.reduceEqDiff, Nat.reduceLeDiff, Nat.reduceAdd, Nat.reduceSub, Nat.reduceMul, reduceCtorEq, Int.reduceEq, Int.reduceLT, Int.reduceLE, Int.reduceNeg, Int.reduceAdd, Int.reduceSub]) hR
end Go.Proofs.YthcgccnbhdociaaDoor

namespace Go.Proofs.YthcgccnbhdociaaDoor
open Go Am
set_option linter.unusedSectionVars false
set_option linter.unusedSimpArgs false
set_option linter.unusedVariables false

theorem c11l1_split : c11l1 = .seq (match c11l1 with | .seq x _ => x | c => c) (.seq (.block 1 (.seq (match c11l1 with | .seq _ (.seq (.block _ (.seq x _)) _) => x | c => c) (.seq (match c11l1 with | .seq _ (.seq (.block _ (.seq _ (.seq x _))) _) => x | c => c) (.seq (.block 2 c11D) c11chk)))) (match c11l1 with | .seq _ (.seq _ x) => x | c => c)) := rfl

def c11t : RC := match c11 with
  | .seq _ (.seq _ (.seq _ (.seq _ (.seq _ t)))) => t
  | c => c
theorem c11_split : c11 = .seq (match c11 with | .seq x _ => x | c => c) (.seq (match c11 with | .seq _ (.seq x _) => x | c => c) (.seq (match c11 with | .seq _ (.seq _ (.seq x _)) => x | c => c) (.seq (match c11 with | .seq _ (.seq _ (.seq _ (.seq x _))) => x | c => c) (.seq (.seq (match c11 with | .seq _ (.seq _ (.seq _ (.seq _ (.seq (.seq x _) _)))) => x | c => c) (.block 0 (.loop c11l1))) c11t)))) := rfl

/-- the reader's state between two words -/
def RdAt (s : List UInt8) (b : Pa) (B : Nat) (h' : Heap) : Prop := ∃ (v : V), (∃ (a : Nat) (fr : Int) (ws : List Wd), h'.get b = rdB s a fr 0 v ∧ a ≤ s.length ∧ ws.length ≤ a ∧ SlO B h' 4 v ws.length (wdsV ws) ∧ lexM s = prep ws (lexR (s.drop a) a) ∧ ∀ hlt : a < s.length, blank s[a] = false ∧ ([40, 42] : List UInt8).isPrefixOf (s.drop a) = false) ∨
  (∃ (a e : Int) (fr : Nat), h'.get b = rdB s a fr e v ∧ e ≠ 0 ∧ lexM s = .error (e, fr))

theorem reflex_tail (s : List UInt8) (n0 : Nat) (h0 h : Heap) (hx : Ext h0 h) (hn : n0 = h0.next) (hn2 : n0 + 2 ≤ h.next) (hz : h.get (pa n0) = .ofL [.int .i64 0, .int .i64 0] 0 false)
    (hd : (∃ (v : V) (fr : Int) (ws : List Wd), h.get (pa (n0 + 1)) = rdB s s.length fr 0 v ∧ SlO (n0 + 2) h 4 v ws.length (wdsV ws) ∧ lexM s = .ok ws) ∨ (∃ (v : V) (a e : Int) (fr : Nat), h.get (pa (n0 + 1)) = rdB s a fr e v ∧ e ≠ 0 ∧ lexM s = .error (e, fr)))
    (r : RF) (r3 : r 3 = .ptr (pa n0) 0) (r4 : r 4 = .ptr (pa (n0 + 1)) 0) :
    wpK Tryd.prog [.c c11t] .normal r h fun e r h' => e.ends ∧ ∃ vs, evR r h' [.t 2, .cn 3 2] = some vs ∧ LexOut s h0 (oneOf vs) h' := by
  unfold c11t c11
  subst hn
  rcases hd with ⟨v, fr, ws, hg, hS, hl⟩ | ⟨v, a, e, fr, hg, he, hl⟩
  · unfold rdB at hg
    simp +contextual (maxSteps := 1000000) only [r3, r4, hg, hz, ↓wA, wB, wZ, repeatV, RX.evs, spl, over, ones, Ex.ends, evR, oneOf, top, ↓reduceIte, Nat.reduceEqDiff, Nat.reduceLeDiff, Nat.reduceAdd, Nat.reduceSub, Nat.reduceMul, reduceCtorEq, Int.reduceEq, Int.reduceLT, Int.reduceLE, Int.reduceNeg, Int.reduceAdd, Int.reduceSub]
    refine ⟨hx.set (Nat.le_refl _) _, ?_⟩
    rw [hl]
    refine ⟨v, rfl, ?_⟩
    have := hS.mod ((Mod.refl (fun q => q = pa h0.next) h).self (.ofL [.int .i64 0, .int .i64 0] 0 false)) (fun q hq e => by
      have h2 := hS.base hq
      rw [show q = pa h0.next from e, unPa_pa] at h2
      omega)
    exact this.mono (by omega)
  · unfold rdB at hg
    simp +contextual (maxSteps := 1000000) only [r3, r4, hg, hz, he, ↓wA, wB, wZ, repeatV, RX.evs, spl, over, ones, Ex.ends, evR, oneOf, top, ↓reduceIte, Nat.reduceEqDiff, Nat.reduceLeDiff, Nat.reduceAdd, Nat.reduceSub, Nat.reduceMul, reduceCtorEq, Int.reduceEq, Int.reduceLT, Int.reduceLE, Int.reduceNeg, Int.reduceAdd, Int.reduceSub]
    refine ⟨hx.set (Nat.le_refl _) _, ?_⟩
    rw [hl]

theorem reflex_ctr (s : List UInt8) (h : Heap) : Ctr Tryd.prog 11 [.str s] h (LexOut s h) := by
  refine c11_ctr rfl (wpK_of ?_)
  rw [c11_split]
  unfold c11
  by_cases hlong : (65536 : Int) < (s.length : Int)
  · simp +contextual only [hlong, ↓wA, wB, wZ, repeatV, RX.evs, spl, over, ones, Ex.ends, evR, oneOf, top, ↓reduceIte, Nat.reduceEqDiff, Nat.reduceLeDiff, Nat.reduceAdd, Nat.reduceSub, Nat.reduceMul, reduceCtorEq, Int.reduceEq, Int.reduceLT, Int.reduceLE, Int.reduceNeg, Int.reduceAdd, Int.reduceSub]
    refine ⟨((Ext.refl h).new _).set (Nat.le_refl _) _, ?_⟩
    unfold lexM
    rw [if_pos (by omega)]
    rfl
  have hlen : ¬ 65536 < s.length := by omega
  simp +contextual only [hlong, ↓wA, wB, wZ, repeatV, RX.evs, spl, over, ones, Ex.ends, evR, oneOf, top, ↓reduceIte, Nat.reduceEqDiff, Nat.reduceLeDiff, Nat.reduceAdd, Nat.reduceSub, Nat.reduceMul, reduceCtorEq, Int.reduceEq, Int.reduceLT, Int.reduceLE, Int.reduceNeg, Int.reduceAdd, Int.reduceSub]
  refine callK_pure (refright_ctr s (by omega) _) ?_
  have hx : Ext h (h.new (.ofL [.int .i64 0, .int .i64 0] 0 false)) := (Ext.refl h).new _
  by_cases hr : rightM s < s.length
  · have hr' : ((rightM s : Int) < (s.length : Int)) = True := eq_true (by omega)
    simp +contextual only [hr', ↓wA, wB, wZ, repeatV, RX.evs, spl, over, ones, Ex.ends, evR, oneOf, top, ↓reduceIte, Nat.reduceEqDiff, Nat.reduceLeDiff, Nat.reduceAdd, Nat.reduceSub, Nat.reduceMul, reduceCtorEq, Int.reduceEq, Int.reduceLT, Int.reduceLE, Int.reduceNeg, Int.reduceAdd, Int.reduceSub]
    refine callK_pure (refright_ctr s (by omega) _) ?_
    simp +contextual only [hr', ↓wA, wB, wZ, repeatV, RX.evs, spl, over, ones, Ex.ends, evR, oneOf, top, ↓reduceIte, Nat.reduceEqDiff, Nat.reduceLeDiff, Nat.reduceAdd, Nat.reduceSub, Nat.reduceMul, reduceCtorEq, Int.reduceEq, Int.reduceLT, Int.reduceLE, Int.reduceNeg, Int.reduceAdd, Int.reduceSub]
    refine ⟨hx.set (Nat.le_refl _) _, ?_⟩
    unfold lexM
    rw [if_neg hlen, if_pos hr]
  have hr' : ((rightM s : Int) < (s.length : Int)) = False := eq_false (by omega)
  have hlm : lexM s = lexR s 0 := by unfold lexM; rw [if_neg hlen, if_neg hr]
  simp +contextual only [hr', ↓wA, wB, wZ, repeatV, RX.evs, spl, over, ones, Ex.ends, evR, oneOf, top, ↓reduceIte, Nat.reduceEqDiff, Nat.reduceLeDiff, Nat.reduceAdd, Nat.reduceSub, Nat.reduceMul, reduceCtorEq, Int.reduceEq, Int.reduceLT, Int.reduceLE, Int.reduceNeg, Int.reduceAdd, Int.reduceSub]
  have hx3 : Ext h ((h.new (.ofL [.int .i64 0, .int .i64 0] 0 false)).new (.ofL [.str s, .int .i64 0, .int .i64 0, .int .i64 0, .nilslice] 0 false)) := hx.new _
  refine callK_intro (skip_ctr s 0 0 .nilslice (pa (h.next + 1)) _ (by simp only [↓wA, wB, wZ, repeatV, RX.evs, spl, over, ones, Ex.ends, evR, oneOf, top, ↓reduceIte, Nat.reduceEqDiff, Nat.reduceLeDiff, Nat.reduceAdd, Nat.reduceSub, Nat.reduceMul, reduceCtorEq, Int.reduceEq, Int.reduceLT, Int.reduceLE, Int.reduceNeg, Int.reduceAdd, Int.reduceSub]; rfl) (by omega) (by omega) (old_lt (by simp only [next_new]; omega))) ?_
  rintro x h1 ⟨hm1, hsk⟩
  have hx1 : Ext h h1 := hx3.mod_new hm1 (fun q hq => by rw [show q = pa (h.next + 1) from hq, unPa_pa]; omega)
  have nx1 : h.next + 2 ≤ h1.next := by have := hm1.next; simp only [next_new] at this; omega
  have hz1 : h1.get (pa h.next) = .ofL [.int .i64 0, .int .i64 0] 0 false := by
    rw [hm1.get _ (old_lt (by simp only [next_new]; omega)) (by rw [pa_eq]; omega)]
    simp only [↓wA, wB, wZ, repeatV, RX.evs, spl, over, ones, Ex.ends, evR, oneOf, top, ↓reduceIte, Nat.reduceEqDiff, Nat.reduceLeDiff, Nat.reduceAdd, Nat.reduceSub, Nat.reduceMul, reduceCtorEq, Int.reduceEq, Int.reduceLT, Int.reduceLE, Int.reduceNeg, Int.reduceAdd, Int.reduceSub]
  have hrd1 : RdAt s (pa (h.next + 1)) (h.next + 2) h1 := by
    rcases hsk with ⟨a, fr, q1, q2, q3, q4, q5⟩ | ⟨fr, q1, q2⟩
    · refine ⟨.nilslice, .inl ⟨a, fr, [], q1, q3, by simp, ⟨rfl, rfl⟩, ?_, q5⟩⟩
      rw [hlm, prep_nil, ← q4, List.drop_zero]
    · refine ⟨.nilslice, .inr ⟨s.length, 253, fr, q1, by decide, ?_⟩⟩
      rw [hlm, ← q2, List.drop_zero]
  simp +contextual only [↓wA, wB, wZ, repeatV, RX.evs, spl, over, ones, Ex.ends, evR, oneOf, top, ↓reduceIte, Nat.reduceEqDiff, Nat.reduceLeDiff, Nat.reduceAdd, Nat.reduceSub, Nat.reduceMul, reduceCtorEq, Int.reduceEq, Int.reduceLT, Int.reduceLE, Int.reduceNeg, Int.reduceAdd, Int.reduceSub]
  refine loopK_intro (fun r h' => r 0 = .str s ∧ r 3 = .ptr (pa h.next) 0 ∧ r 4 = .ptr (pa (h.next + 1)) 0 ∧ Ext h h' ∧ h.next + 2 ≤ h'.next ∧ h'.get (pa h.next) = .ofL [.int .i64 0, .int .i64 0] 0 false ∧ RdAt s (pa (h.next + 1)) (h.next + 2) h')
    (fun r h' => s.length - ((ld1B (h'.get (pa (h.next + 1))) 1).getD .bad).toN) ?_ ?_
  · exact ⟨by simp only [↓wA, wB, wZ, repeatV, RX.evs, spl, over, ones, Ex.ends, evR, oneOf, top, ↓reduceIte, Nat.reduceEqDiff, Nat.reduceLeDiff, Nat.reduceAdd, Nat.reduceSub, Nat.reduceMul, reduceCtorEq, Int.reduceEq, Int.reduceLT, Int.reduceLE, Int.reduceNeg, Int.reduceAdd, Int.reduceSub], by simp only [↓wA, wB, wZ, repeatV, RX.evs, spl, over, ones, Ex.ends, evR, oneOf, top, ↓reduceIte, Nat.reduceEqDiff, Nat.reduceLeDiff, Nat.reduceAdd, Nat.reduceSub, Nat.reduceMul, reduceCtorEq, Int.reduceEq, Int.reduceLT, Int.reduceLE, Int.reduceNeg, Int.reduceAdd, Int.reduceSub], by simp only [↓wA, wB, wZ, repeatV, RX.evs, spl, over, ones, Ex.ends, evR, oneOf, top, ↓reduceIte, Nat.reduceEqDiff, Nat.reduceLeDiff, Nat.reduceAdd, Nat.reduceSub, Nat.reduceMul, reduceCtorEq, Int.reduceEq, Int.reduceLT, Int.reduceLE, Int.reduceNeg, Int.reduceAdd, Int.reduceSub], hx1, nx1, hz1, hrd1⟩
  · rintro r h' ⟨r0, r3, r4, hxx, hnx, hz, v, ⟨a, fr, ws, hg, k1, kw, hS, hok, hnb⟩ | ⟨a, e, fr, hg, he, hok⟩⟩
    · rw [c11l1_split]
      unfold c11l1
      have hg0 := hg
      unfold rdB at hg
      by_cases hlt : a < s.length
      · have g0 : ((a : Int) < (s.length : Int)) = True := eq_true (by omega)
        have g1 : (0 ≤ (a : Int)) = True := eq_true (by omega)
        obtain ⟨hbl, hpre⟩ := hnb hlt
        rw [drop_cons hlt, lexR_cons, hbl, if_neg Bool.false_ne_true, ← drop_cons hlt, hpre, if_neg Bool.false_ne_true] at hok
        simp +contextual (maxSteps := 1000000) only [r0, r3, r4, hg, g0, g1, List.getElem?_eq_getElem hlt, Int.toNat_natCast, ↓wA, wB, wZ, repeatV, RX.evs, spl, over, ones, Ex.ends, evR, oneOf, top, ↓reduceIte, Nat.reduceEqDiff, Nat.reduceLeDiff, Nat.reduceAdd, Nat.reduceSub, Nat.reduceMul, reduceCtorEq, Int.reduceEq, Int.reduceLT, Int.reduceLE, Int.reduceNeg, Int.reduceAdd, Int.reduceSub]
        refine disp s a ws v (pa (h.next + 1)) (h.next + 2) _ (by rw [get_set, if_pos rfl]; rfl) hlt (by omega) (slo_setB hS (by rw [unPa_pa]; omega) _) (old_lt (by rw [next_set]; omega)) (by rw [unPa_pa]; omega) (by rw [next_set]; omega) (by omega) _ (by simp only [r4, ↓wA, wB, wZ, repeatV, RX.evs, spl, over, ones, Ex.ends, evR, oneOf, top, ↓reduceIte, Nat.reduceEqDiff, Nat.reduceLeDiff, Nat.reduceAdd, Nat.reduceSub, Nat.reduceMul, reduceCtorEq, Int.reduceEq, Int.reduceLT, Int.reduceLE, Int.reduceNeg, Int.reduceAdd, Int.reduceSub]) (by simp only [↓wA, wB, wZ, repeatV, RX.evs, spl, over, ones, Ex.ends, evR, oneOf, top, ↓reduceIte, Nat.reduceEqDiff, Nat.reduceLeDiff, Nat.reduceAdd, Nat.reduceSub, Nat.reduceMul, reduceCtorEq, Int.reduceEq, Int.reduceLT, Int.reduceLE, Int.reduceNeg, Int.reduceAdd, Int.reduceSub]) _ _ ?_
        intro r' h2 r0' r3' r4' hR
        simp only [↓wA, wB, wZ, repeatV, RX.evs, spl, over, ones, Ex.ends, evR, oneOf, top, ↓reduceIte, Nat.reduceEqDiff, Nat.reduceLeDiff, Nat.reduceAdd, Nat.reduceSub, Nat.reduceMul, reduceCtorEq, Int.reduceEq, Int.reduceLT, Int.reduceLE, Int.reduceNeg, Int.reduceAdd, Int.reduceSub] at r0' r3'
        rw [r0] at r0'
        rw [r3] at r3'
        obtain ⟨hm2, v2, hres⟩ := hR
        have hx2 : Ext h h2 := (hxx.set (show h.next ≤ h.next + 1 by omega) _).mod_new hm2 (fun q hq => by
          rcases hq with q1 | q1
          · rw [q1, unPa_pa]; omega
          · omega)
        have nx2 : h.next + 2 ≤ h2.next := by have := hm2.next; rw [next_set] at this; omega
        have hz2 : h2.get (pa h.next) = .ofL [.int .i64 0, .int .i64 0] 0 false := by
          rw [hm2.get _ (old_lt (by rw [next_set]; omega)) (fun q => q.elim (fun q => by rw [pa_eq] at q; omega) (fun q => by rw [unPa_pa] at q; omega)), get_set, if_neg (by rw [pa_eq]; omega), hz]
        cases hnxt : nextM (s.drop a) with
        | ok q =>
          have hpos := nextM_pos hnxt
          rw [hnxt] at hok hres
          obtain ⟨hg2, hle, hS2⟩ := hres
          have hg2' := hg2
          unfold rdB at hg2'
          unfold c11chk c11l1
          simp +contextual (maxSteps := 1000000) only [r0', r3', r4', hg2', ↓wA, wB, wZ, repeatV, RX.evs, spl, over, ones, Ex.ends, evR, oneOf, top, ↓reduceIte, Nat.reduceEqDiff, Nat.reduceLeDiff, Nat.reduceAdd, Nat.reduceSub, Nat.reduceMul, reduceCtorEq, Int.reduceEq, Int.reduceLT, Int.reduceLE, Int.reduceNeg, Int.reduceAdd, Int.reduceSub]
          refine callK_intro (skip_ctr s (a + q.2.2.2) a v2 (pa (h.next + 1)) h2 hg2 hle (by omega) (old_lt (by omega))) ?_
          rintro x h3 ⟨hm3, hsk3⟩
          have hS3 := hS2.mod hm3 (fun q hq e => by
            have := hS2.base hq
            rw [show q = pa (h.next + 1) from e, unPa_pa] at this
            omega)
          have hz3 : h3.get (pa h.next) = .ofL [.int .i64 0, .int .i64 0] 0 false := by rw [hm3.get _ (old_lt (by omega)) (by rw [pa_eq]; omega), hz2]
          have hx3 : Ext h h3 := hx2.mod_new hm3 (fun q hq => by rw [show q = pa (h.next + 1) from hq, unPa_pa]; omega)
          have nx3 : h.next + 2 ≤ h3.next := Nat.le_trans nx2 hm3.next
          simp +contextual (maxSteps := 1000000) only [r0', r3', r4', ↓wA, wB, wZ, repeatV, RX.evs, spl, over, ones, Ex.ends, evR, oneOf, top, ↓reduceIte, Nat.reduceEqDiff, Nat.reduceLeDiff, Nat.reduceAdd, Nat.reduceSub, Nat.reduceMul, reduceCtorEq, Int.reduceEq, Int.reduceLT, Int.reduceLE, Int.reduceNeg, Int.reduceAdd, Int.reduceSub]
          rcases hsk3 with ⟨a3, fr3, q1, q2, q3, q4, q5⟩ | ⟨fr3, q1, q2⟩
          · refine ⟨⟨hx3, nx3, hz3, v2, .inl ⟨a3, fr3, ws ++ [⟨q.1, q.2.1, a, q.2.2.1⟩], q1, q3, by simp; omega, by rw [List.length_append]; exact hS3, ?_, q5⟩⟩, ?_⟩
            · rw [hok, prep_cons]
              simp only [List.drop_drop]
              rw [q4]
            · rw [q1]
              unfold rdB
              simp only [↓wA, wB, wZ, repeatV, RX.evs, spl, over, ones, Ex.ends, evR, oneOf, top, ↓reduceIte, Nat.reduceEqDiff, Nat.reduceLeDiff, Nat.reduceAdd, Nat.reduceSub, Nat.reduceMul, reduceCtorEq, Int.reduceEq, Int.reduceLT, Int.reduceLE, Int.reduceNeg, Int.reduceAdd, Int.reduceSub]
              omega
          · refine ⟨⟨hx3, nx3, hz3, v2, .inr ⟨s.length, 253, fr3, q1, by decide, ?_⟩⟩, ?_⟩
            · rw [hok, prep_cons]
              simp only [List.drop_drop]
              rw [q2]
              rfl
            · rw [q1]
              unfold rdB
              simp only [↓wA, wB, wZ, repeatV, RX.evs, spl, over, ones, Ex.ends, evR, oneOf, top, ↓reduceIte, Nat.reduceEqDiff, Nat.reduceLeDiff, Nat.reduceAdd, Nat.reduceSub, Nat.reduceMul, reduceCtorEq, Int.reduceEq, Int.reduceLT, Int.reduceLE, Int.reduceNeg, Int.reduceAdd, Int.reduceSub]
              omega
        | error e =>
          rw [hnxt] at hok hres
          obtain ⟨he, a2, hg2⟩ := hres
          have hg2' := hg2
          unfold rdB at hg2'
          unfold c11chk c11l1
          simp +contextual (maxSteps := 1000000) only [r0', r3', r4', hg2', he, ↓wA, wB, wZ, repeatV, RX.evs, spl, over, ones, Ex.ends, evR, oneOf, top, ↓reduceIte, Nat.reduceEqDiff, Nat.reduceLeDiff, Nat.reduceAdd, Nat.reduceSub, Nat.reduceMul, reduceCtorEq, Int.reduceEq, Int.reduceLT, Int.reduceLE, Int.reduceNeg, Int.reduceAdd, Int.reduceSub]
          exact reflex_tail s h.next h h2 hx2 rfl nx2 hz2 (.inr ⟨v2, a2, e, a, hg2, he, hok⟩) _ (by simp only [r3', ↓wA, wB, wZ, repeatV, RX.evs, spl, over, ones, Ex.ends, evR, oneOf, top, ↓reduceIte, Nat.reduceEqDiff, Nat.reduceLeDiff, Nat.reduceAdd, Nat.reduceSub, Nat.reduceMul, reduceCtorEq, Int.reduceEq, Int.reduceLT, Int.reduceLE, Int.reduceNeg, Int.reduceAdd, Int.reduceSub]) (by simp only [r4', ↓wA, wB, wZ, repeatV, RX.evs, spl, over, ones, Ex.ends, evR, oneOf, top, ↓reduceIte, Nat.reduceEqDiff, Nat.reduceLeDiff, Nat.reduceAdd, Nat.reduceSub, Nat.reduceMul, reduceCtorEq, Int.reduceEq, Int.reduceLT, Int.reduceLE, Int.reduceNeg, Int.reduceAdd, Int.reduceSub])
      · have g0 : ((a : Int) < (s.length : Int)) = False := eq_false (by omega)
        have ha : a = s.length := by omega
        simp +contextual (maxSteps := 1000000) only [r0, r3, r4, hg, g0, ↓wA, wB, wZ, repeatV, RX.evs, spl, over, ones, Ex.ends, evR, oneOf, top, ↓reduceIte, Nat.reduceEqDiff, Nat.reduceLeDiff, Nat.reduceAdd, Nat.reduceSub, Nat.reduceMul, reduceCtorEq, Int.reduceEq, Int.reduceLT, Int.reduceLE, Int.reduceNeg, Int.reduceAdd, Int.reduceSub]
        refine reflex_tail s h.next h h' hxx rfl hnx hz (.inl ⟨v, fr, ws, by rw [hg0, ha], hS, ?_⟩) _ (by simp only [r3, ↓wA, wB, wZ, repeatV, RX.evs, spl, over, ones, Ex.ends, evR, oneOf, top, ↓reduceIte, Nat.reduceEqDiff, Nat.reduceLeDiff, Nat.reduceAdd, Nat.reduceSub, Nat.reduceMul, reduceCtorEq, Int.reduceEq, Int.reduceLT, Int.reduceLE, Int.reduceNeg, Int.reduceAdd, Int.reduceSub]) (by simp only [r4, ↓wA, wB, wZ, repeatV, RX.evs, spl, over, ones, Ex.ends, evR, oneOf, top, ↓reduceIte, Nat.reduceEqDiff, Nat.reduceLeDiff, Nat.reduceAdd, Nat.reduceSub, Nat.reduceMul, reduceCtorEq, Int.reduceEq, Int.reduceLT, Int.reduceLE, Int.reduceNeg, Int.reduceAdd, Int.reduceSub])
        rw [hok, ha, List.drop_length]
        show Except.ok (ws ++ []) = _
        rw [List.append_nil]
    · rw [c11l1_split]
      unfold c11l1
      have hg0 := hg
      unfold rdB at hg
      by_cases hlt : a < (s.length : Int)
      · simp +contextual (maxSteps := 1000000) only [r0, r3, r4, hg, hlt, he, ↓wA, wB, wZ, repeatV, RX.evs, spl, over, ones, Ex.ends, evR, oneOf, top, ↓reduceIte, Nat.reduceEqDiff, Nat.reduceLeDiff, Nat.reduceAdd, Nat.reduceSub, Nat.reduceMul, reduceCtorEq, Int.reduceEq, Int.reduceLT, Int.reduceLE, Int.reduceNeg, Int.reduceAdd, Int.reduceSub]
        exact reflex_tail s h.next h h' hxx rfl hnx hz (.inr ⟨v, a, e, fr, hg0, he, hok⟩) _ (by simp only [r3, ↓wA, wB, wZ, repeatV, RX.evs, spl, over, ones, Ex.ends, evR, oneOf, top, ↓reduceIte, Nat.reduceEqDiff, Nat.reduceLeDiff, Nat.reduceAdd, Nat.reduceSub, Nat.reduceMul, reduceCtorEq, Int.reduceEq, Int.reduceLT, Int.reduceLE, Int.reduceNeg, Int.reduceAdd, Int.reduceSub]) (by simp only [r4, ↓wA, wB, wZ, repeatV, RX.evs, spl, over, ones, Ex.ends, evR, oneOf, top, ↓reduceIte, Nat.reduceEqDiff, Nat.reduceLeDiff, Nat.reduceAdd, Nat.reduceSub, Nat.reduceMul, reduceCtorEq, Int.reduceEq, Int.reduceLT, Int.reduceLE, Int.reduceNeg, Int.reduceAdd, Int.reduceSub])
      · simp +contextual (maxSteps := 1000000) only [r0, r3, r4, hg, hlt, he, ↓wA, wB, wZ, repeatV, RX.evs, spl, over, ones, Ex.ends, evR, oneOf, top, ↓reduceIte, Nat.reduceEqDiff, Nat.reduceLeDiff, Nat.reduceAdd, Nat.reduceSub, Nat.reduceMul, reduceCtorEq, Int.reduceEq, Int.reduceLT, Int.reduceLE, Int.reduceNeg, Int.reduceAdd, Int.reduceSub]
        exact reflex_tail s h.next h h' hxx rfl hnx hz (.inr ⟨v, a, e, fr, hg0, he, hok⟩) _ (by simp only [r3, ↓wA, wB, wZ, repeatV, RX.evs, spl, over, ones, Ex.ends, evR, oneOf, top, ↓reduceIte, Nat.reduceEqDiff, Nat.reduceLeDiff, Nat.reduceAdd, Nat.reduceSub, Nat.reduceMul, reduceCtorEq, Int.reduceEq, Int.reduceLT, Int.reduceLE, Int.reduceNeg, Int.reduceAdd, Int.reduceSub]) (by simp only [r4, ↓wA, wB, wZ, repeatV, RX.evs, spl, over, ones, Ex.ends, evR, oneOf, top, ↓reduceIte, Nat.reduceEqDiff, Nat.reduceLeDiff, Nat.reduceAdd, Nat.reduceSub, Nat.reduceMul, reduceCtorEq, Int.reduceEq, Int.reduceLT, Int.reduceLE, Int.reduceNeg, Int.reduceAdd, Int.reduceSub])
end Go.Proofs.YthcgccnbhdociaaDoor

namespace Go.Proofs.YthcgccnbhdociaaDoor
open Go Am
set_option linter.unusedSectionVars false
set_option linter.unusedSimpArgs false
set_option linter.unusedVariables false

theorem neq31 (a b : Wd) : (BK.other .neq 31).run Tryd.prog (.agg a.enc) (.agg b.enc) = some (.bool (!decide (a = b))) := by
  obtain ⟨k, n, p, t⟩ := a
  obtain ⟨k', n', p', t'⟩ := b
  have h : (BK.other .neq 31).run Tryd.prog (.agg [.int .i64 k, .int .i64 n, .int .i64 p, .str t]) (.agg [.int .i64 k', .int .i64 n', .int .i64 p', .str t']) =
   (match (bif Int.eqB k k' then (bif Int.eqB n n' then (bif Int.eqB p p' then (bif beqBytes t t' then some true else some false) else some false) else some false) else some false) with
     | some b => some (V.bool (!b))
     | none => none) := by kernel_rfl
  show (BK.other .neq 31).run Tryd.prog (.agg [.int .i64 k, .int .i64 n, .int .i64 p, .str t]) (.agg [.int .i64 k', .int .i64 n', .int .i64 p', .str t']) = _
  rw [h]
  have hpp : ((p : Int) = (p' : Int)) = (p = p') := propext ⟨fun q => by omega, fun q => by omega⟩
  simp only [eqB_dec, beqBytes_dec, Wd.mk.injEq, hpp]
  by_cases h1 : k = k' <;> by_cases h2 : n = n' <;> by_cases h3 : p = p' <;> by_cases h4 : t = t' <;> simp [h1, h2, h3, h4]
theorem eql26 (a b a' b' : Int) : (BK.other .eql 26).run Tryd.prog (.agg [.int .i64 a, .int .i64 b]) (.agg [.int .i64 a', .int .i64 b']) = some (.bool (decide (a = a') && decide (b = b'))) := by
  have h : (BK.other .eql 26).run Tryd.prog (.agg [.int .i64 a, .int .i64 b]) (.agg [.int .i64 a', .int .i64 b']) =
   (match (bif Int.eqB a a' then (bif Int.eqB b b' then some true else some false) else some false) with
     | some b => some (V.bool b)
     | none => none) := by kernel_rfl
  rw [h]
  simp only [eqB_dec]
  by_cases h1 : a = a' <;> by_cases h2 : b = b' <;> simp [h1, h2]
theorem neq26 (a b a' b' : Int) : (BK.other .neq 26).run Tryd.prog (.agg [.int .i64 a, .int .i64 b]) (.agg [.int .i64 a', .int .i64 b']) = some (.bool (!(decide (a = a') && decide (b = b')))) := by
  have h : (BK.other .neq 26).run Tryd.prog (.agg [.int .i64 a, .int .i64 b]) (.agg [.int .i64 a', .int .i64 b']) =
   (match (bif Int.eqB a a' then (bif Int.eqB b b' then some true else some false) else some false) with
     | some b => some (V.bool (!b))
     | none => none) := by kernel_rfl
  rw [h]
  simp only [eqB_dec]
  by_cases h1 : a = a' <;> by_cases h2 : b = b' <;> simp [h1, h2]

theorem wdsV_at : ∀ (ws : List Wd) (i : Nat) (hi : i < ws.length), ((wdsV ws).drop (i * 4)).take 4 = ws[i].enc
  | w :: ws, 0, _ => by simp [wdsV, Wd.enc]
  | w :: ws, i + 1, hi => by
    have := wdsV_at ws i (by simpa using hi)
    rw [show (i + 1) * 4 = 4 + i * 4 from by omega]
    simp only [wdsV, List.getElem_cons_succ]
    rw [← List.drop_drop, show (w.enc ++ wdsV ws).drop 4 = wdsV ws from by simp [Wd.enc]]
    exact this

theorem same_pure (v1 v2 : V) (a b : List Wd) (h : Heap) (H1 : SlV h 4 v1 a.length (wdsV a)) (H2 : SlV h 4 v2 b.length (wdsV b)) (hl : a.length ≤ 100000) :
    CallsV Tryd.prog 12 [v1, v2] h (.bool (decide (a = b))) h := by
  refine pure_calls (c12_ctr rfl (wpK_of ?_))
  unfold c12
  simp +contextual only [H1.len, H2.len, ↓wA, wB, wZ, repeatV, RX.evs, spl, over, ones, Ex.ends, evR, oneOf, top, ↓reduceIte, Nat.reduceEqDiff, Nat.reduceLeDiff, Nat.reduceAdd, Nat.reduceSub, Nat.reduceMul, reduceCtorEq, Int.reduceEq, Int.reduceLT, Int.reduceLE, Int.reduceNeg, Int.reduceAdd, Int.reduceSub]
  by_cases hn : a.length = b.length
  · have hn' : ((a.length : Int) = (b.length : Int)) = True := eq_true (by omega)
    simp +contextual only [hn', ↓wA, wB, wZ, repeatV, RX.evs, spl, over, ones, Ex.ends, evR, oneOf, top, ↓reduceIte, Nat.reduceEqDiff, Nat.reduceLeDiff, Nat.reduceAdd, Nat.reduceSub, Nat.reduceMul, reduceCtorEq, Int.reduceEq, Int.reduceLT, Int.reduceLE, Int.reduceNeg, Int.reduceAdd, Int.reduceSub]
    refine loopK_intro (fun r h' => h' = h ∧ r 0 = v1 ∧ r 1 = v2 ∧ ∃ i : Nat, r 5 = .int .i64 i ∧ i ≤ a.length ∧ decide (a = b) = decide (a.drop i = b.drop i)) (fun r h' => a.length - (r 5).toN) ?_ ?_
    · exact ⟨rfl, by simp only [↓wA, wB, wZ, repeatV, RX.evs, spl, over, ones, Ex.ends, evR, oneOf, top, ↓reduceIte, Nat.reduceEqDiff, Nat.reduceLeDiff, Nat.reduceAdd, Nat.reduceSub, Nat.reduceMul, reduceCtorEq, Int.reduceEq, Int.reduceLT, Int.reduceLE, Int.reduceNeg, Int.reduceAdd, Int.reduceSub], by simp only [↓wA, wB, wZ, repeatV, RX.evs, spl, over, ones, Ex.ends, evR, oneOf, top, ↓reduceIte, Nat.reduceEqDiff, Nat.reduceLeDiff, Nat.reduceAdd, Nat.reduceSub, Nat.reduceMul, reduceCtorEq, Int.reduceEq, Int.reduceLT, Int.reduceLE, Int.reduceNeg, Int.reduceAdd, Int.reduceSub], 0, by simp only [↓wA, wB, wZ, repeatV, RX.evs, spl, over, ones, Ex.ends, evR, oneOf, top, ↓reduceIte, Nat.reduceEqDiff, Nat.reduceLeDiff, Nat.reduceAdd, Nat.reduceSub, Nat.reduceMul, reduceCtorEq, Int.reduceEq, Int.reduceLT, Int.reduceLE, Int.reduceNeg, Int.reduceAdd, Int.reduceSub]; rfl, by omega, rfl⟩
    · rintro r h' ⟨rfl, r0, r1, i, r5, hi, hok⟩
      unfold c12l1
      by_cases hlt : i < a.length
      · have g0 : ((i : Int) < (a.length : Int)) = True := eq_true (by omega)
        have hlt2 : i < b.length := by omega
        obtain ⟨b1, o1, ia1, at1⟩ := H1.ia (k := .i64) hlt
        obtain ⟨b2, o2, ia2, at2⟩ := H2.ia (k := .i64) hlt2
        have ld1 := at1.ldn (i := i * 4) (n := 4) (by rw [wdsV_len]; omega)
        have ld2 := at2.ldn (i := i * 4) (n := 4) (by rw [wdsV_len]; omega)
        rw [wdsV_at a i hlt] at ld1
        rw [wdsV_at b i hlt2] at ld2
        rw [List.drop_eq_getElem_cons hlt, List.drop_eq_getElem_cons hlt2] at hok
        by_cases he : a[i] = b[i]
        · have w : IntKind.i64.wrap ((i : Int) + 1) = ((i + 1 : Nat) : Int) := by rw [wrap_i64 (by omega) (by omega)]; rfl
          have he' : decide (a[i] = b[i]) = true := decide_eq_true he
          simp +contextual (maxSteps := 1000000) only [r0, r1, r5, g0, H1.len, H2.len, ia1, ia2, ld1, ld2, neq31, he', w, ↓wA, wB, wZ, repeatV, RX.evs, spl, over, ones, Ex.ends, evR, oneOf, top, ↓reduceIte, Nat.reduceEqDiff, Nat.reduceLeDiff, Nat.reduceAdd, Nat.reduceSub, Nat.reduceMul, reduceCtorEq, Int.reduceEq, Int.reduceLT, Int.reduceLE, Int.reduceNeg, Int.reduceAdd, Int.reduceSub]
          refine ⟨⟨i + 1, rfl, hlt, ?_⟩, by omega⟩
          rw [hok, he, Bool.eq_iff_iff, decide_eq_true_eq, decide_eq_true_eq, List.cons.injEq]
          exact ⟨fun q => q.2, fun q => ⟨rfl, q⟩⟩
        · have he' : decide (a[i] = b[i]) = false := decide_eq_false he
          simp +contextual (maxSteps := 1000000) only [r0, r1, r5, g0, H1.len, H2.len, ia1, ia2, ld1, ld2, neq31, he', ↓wA, wB, wZ, repeatV, RX.evs, spl, over, ones, Ex.ends, evR, oneOf, top, ↓reduceIte, Nat.reduceEqDiff, Nat.reduceLeDiff, Nat.reduceAdd, Nat.reduceSub, Nat.reduceMul, reduceCtorEq, Int.reduceEq, Int.reduceLT, Int.reduceLE, Int.reduceNeg, Int.reduceAdd, Int.reduceSub]
          rw [hok, eq_comm, decide_eq_false_iff_not]
          exact fun q => he (List.cons.inj q).1
      · have g0 : ((i : Int) < (a.length : Int)) = False := eq_false (by omega)
        rw [List.drop_eq_nil_of_le (by omega), List.drop_eq_nil_of_le (by omega)] at hok
        rw [hok]
        simp +contextual only [r0, r1, r5, g0, H1.len, H2.len, ↓wA, wB, wZ, repeatV, RX.evs, spl, over, ones, Ex.ends, evR, oneOf, top, ↓reduceIte, Nat.reduceEqDiff, Nat.reduceLeDiff, Nat.reduceAdd, Nat.reduceSub, Nat.reduceMul, reduceCtorEq, Int.reduceEq, Int.reduceLT, Int.reduceLE, Int.reduceNeg, Int.reduceAdd, Int.reduceSub]
  · have hn' : ((a.length : Int) = (b.length : Int)) = False := eq_false (by omega)
    simp +contextual only [hn', ↓wA, wB, wZ, repeatV, RX.evs, spl, over, ones, Ex.ends, evR, oneOf, top, ↓reduceIte, Nat.reduceEqDiff, Nat.reduceLeDiff, Nat.reduceAdd, Nat.reduceSub, Nat.reduceMul, reduceCtorEq, Int.reduceEq, Int.reduceLT, Int.reduceLE, Int.reduceNeg, Int.reduceAdd, Int.reduceSub]
    rw [eq_comm, decide_eq_false_iff_not]
    exact fun e => hn (congrArg List.length e)

theorem lexF_len : ∀ (f : Nat) (r : List UInt8) (p : Nat) (ws : List Wd), lexF f r p = .ok ws → ws.length ≤ f
  | 0, r, p, ws, h => by simp only [lexF, Except.ok.injEq] at h; subst h; simp
  | f + 1, [], p, ws, h => by simp only [lexF, Except.ok.injEq] at h; subst h; simp
  | f + 1, c :: r, p, ws, h => by
    simp only [lexF] at h
    split at h
    · have := lexF_len f _ _ _ h; omega
    · split at h
      · split at h
        · cases h
        · have := lexF_len f _ _ _ h; omega
      · split at h
        · cases h
        · rename_i q hq
          cases hr : lexF f ((c :: r).drop q.2.2.2) (p + q.2.2.2) with
          | error e => rw [hr] at h; cases h
          | ok w2 =>
            rw [hr] at h
            simp only [consOk, Except.ok.injEq] at h
            subst h
            have := lexF_len f _ _ _ hr
            simp only [List.length_cons]
            omega
theorem lexM_len {s : List UInt8} {ws : List Wd} (h : lexM s = .ok ws) : ws.length ≤ 65536 := by
  unfold lexM at h
  split at h
  · cases h
  · split at h
    · cases h
    · have := lexF_len _ _ _ _ h; omega

theorem nextM_err {c : UInt8} {r : List UInt8} {e : Int} (h : nextM (c :: r) = .error e) : e ≠ 0 := by
  have hname : ∀ {k : Int} {r : List UInt8} {e : Int}, nameM k r = .error e → e ≠ 0 := by
    intro k r e h
    unfold nameM at h
    simp only at h
    split at h
    · cases h
    · split at h
      · cases h
      · split at h
        · cases h; decide
        · cases h
  simp only [nextM] at h
  split at h
  · unfold numM at h
    simp only at h
    split at h
    · cases h; decide
    · cases h
  · split at h
    · unfold strM at h
      split at h
      · cases h; decide
      · split at h
        · cases h; decide
        · cases h
    · split at h
      · exact hname h
      · split at h
        · exact hname h
        · split at h
          · cases hn : nameM 5 r with
            | error e' => rw [hn] at h; cases h; exact hname hn
            | ok q' => rw [hn] at h; cases h
          · unfold signM at h
            split at h
            · cases h
            · cases h; decide
theorem lexF_err : ∀ (f : Nat) (r : List UInt8) (p : Nat) (e : Int × Nat), lexF f r p = .error e → e.1 ≠ 0
  | 0, r, p, e, h => by simp only [lexF] at h; cases h
  | f + 1, [], p, e, h => by simp only [lexF] at h; cases h
  | f + 1, c :: r, p, e, h => by
    simp only [lexF] at h
    split at h
    · exact lexF_err f _ _ _ h
    · split at h
      · split at h
        · cases h; show (253 : Int) ≠ 0; decide
        · exact lexF_err f _ _ _ h
      · split at h
        · rename_i e' he'
          cases h
          exact nextM_err he'
        · rename_i q hq
          cases hr : lexF f ((c :: r).drop q.2.2.2) (p + q.2.2.2) with
          | error e2 =>
            rw [hr] at h
            cases h
            exact lexF_err f _ _ _ hr
          | ok w2 => rw [hr] at h; cases h
theorem lexM_err {s : List UInt8} {e : Int × Nat} (h : lexM s = .error e) : e.1 ≠ 0 := by
  unfold lexM at h
  split at h
  · cases h; show (3 : Int) ≠ 0; decide
  · split at h
    · cases h; show (250 : Int) ≠ 0; decide
    · exact lexF_err _ _ _ _ h
/-- is a text read as these words? -/
def lexEq (s : List UInt8) (ws : List Wd) : Bool := match lexM s with
  | .ok w => decide (w = ws)
  | .error _ => false
/-- has, faulty: is a text read just so? -/
theorem has_ctr (s : List UInt8) (v : V) (ws : List Wd) (h : Heap) (H : SlV h 4 v ws.length (wdsV ws)) :
    Ctr Tryd.prog 20 [.str s, v] h fun x h' => x = .bool (lexEq s ws) ∧ Ext h h' := by
  refine c20_ctr rfl (wpK_of ?_)
  unfold c20
  simp +contextual only [↓wA, wB, wZ, repeatV, RX.evs, spl, over, ones, Ex.ends, evR, oneOf, top, ↓reduceIte, Nat.reduceEqDiff, Nat.reduceLeDiff, Nat.reduceAdd, Nat.reduceSub, Nat.reduceMul, reduceCtorEq, Int.reduceEq, Int.reduceLT, Int.reduceLE, Int.reduceNeg, Int.reduceAdd, Int.reduceSub]
  refine callK_intro (lex_ctr s h) ?_
  rintro x h1 ⟨hx, hl⟩
  cases hlm : lexM s with
  | ok w2 =>
    rw [hlm] at hl
    obtain ⟨v2, rfl, hS⟩ := hl
    have hx2 : Ext h1 ((h1.new (.ofL [.int .i64 0, .int .i64 0] 0 false)).set (pa h1.next) (.ofL [.int .i64 0, .int .i64 0] 0 false)) := ((Ext.refl h1).new _).set (Nat.le_refl _) _
    simp +contextual only [eql26, ↓wA, wB, wZ, repeatV, RX.evs, spl, over, ones, Ex.ends, evR, oneOf, top, ↓reduceIte, Nat.reduceEqDiff, Nat.reduceLeDiff, Nat.reduceAdd, Nat.reduceSub, Nat.reduceMul, reduceCtorEq, Int.reduceEq, Int.reduceLT, Int.reduceLE, Int.reduceNeg, Int.reduceAdd, Int.reduceSub]
    refine callK_pure (same_pure v2 v w2 ws _ (hS.v.ext hx2) (H.ext (hx.trans hx2)) (by have := lexM_len hlm; omega)) ?_
    simp +contextual only [↓wA, wB, wZ, repeatV, RX.evs, spl, over, ones, Ex.ends, evR, oneOf, top, ↓reduceIte, Nat.reduceEqDiff, Nat.reduceLeDiff, Nat.reduceAdd, Nat.reduceSub, Nat.reduceMul, reduceCtorEq, Int.reduceEq, Int.reduceLT, Int.reduceLE, Int.reduceNeg, Int.reduceAdd, Int.reduceSub]
    exact ⟨by unfold lexEq; rw [hlm], hx.trans hx2⟩
  | error e =>
    rw [hlm] at hl
    subst hl
    have hx2 : Ext h1 ((h1.new (.ofL [.int .i64 0, .int .i64 0] 0 false)).set (pa h1.next) (.ofL [.int .i64 e.1, .int .i64 e.2] 0 false)) := ((Ext.refl h1).new _).set (Nat.le_refl _) _
    have he : (e.1 = 0) = False := eq_false (lexM_err hlm)
    simp +contextual only [eql26, he, ↓wA, wB, wZ, repeatV, RX.evs, spl, over, ones, Ex.ends, evR, oneOf, top, ↓reduceIte, Nat.reduceEqDiff, Nat.reduceLeDiff, Nat.reduceAdd, Nat.reduceSub, Nat.reduceMul, reduceCtorEq, Int.reduceEq, Int.reduceLT, Int.reduceLE, Int.reduceNeg, Int.reduceAdd, Int.reduceSub]
    exact ⟨by unfold lexEq; rw [hlm], hx.trans hx2⟩

theorem faulty_ctr (s : List UInt8) (e p : Int) (h : Heap) :
    Ctr Tryd.prog 21 [.str s, .int .i64 e, .int .i64 p] h fun x h' => x = .bool (match lexM s with | .error q => decide (q.1 = e) && decide ((q.2 : Int) = p) | .ok ws => decide (ws = []) && (decide (0 = e) && decide (0 = p))) ∧ Ext h h' := by
  refine c21_ctr rfl (wpK_of ?_)
  unfold c21
  simp +contextual only [↓wA, wB, wZ, repeatV, RX.evs, spl, over, ones, Ex.ends, evR, oneOf, top, ↓reduceIte, Nat.reduceEqDiff, Nat.reduceLeDiff, Nat.reduceAdd, Nat.reduceSub, Nat.reduceMul, reduceCtorEq, Int.reduceEq, Int.reduceLT, Int.reduceLE, Int.reduceNeg, Int.reduceAdd, Int.reduceSub]
  refine callK_intro (lex_ctr s h) ?_
  rintro x h1 ⟨hx, hl⟩
  cases hlm : lexM s with
  | ok w2 =>
    rw [hlm] at hl
    obtain ⟨v2, rfl, hS⟩ := hl
    have hx2 : Ext h1 ((h1.new (.ofL [.int .i64 0, .int .i64 0] 0 false)).set (pa h1.next) (.ofL [.int .i64 0, .int .i64 0] 0 false)) := ((Ext.refl h1).new _).set (Nat.le_refl _) _
    by_cases hw : w2 = []
    · subst hw
      have z : ((([] : List Wd).length : Nat) : Int) = 0 := rfl
      simp +contextual only [eql26, (hS.v.ext hx2).len, z, ↓wA, wB, wZ, repeatV, RX.evs, spl, over, ones, Ex.ends, evR, oneOf, top, ↓reduceIte, Nat.reduceEqDiff, Nat.reduceLeDiff, Nat.reduceAdd, Nat.reduceSub, Nat.reduceMul, reduceCtorEq, Int.reduceEq, Int.reduceLT, Int.reduceLE, Int.reduceNeg, Int.reduceAdd, Int.reduceSub]
      exact ⟨by simp, hx.trans hx2⟩
    · have z : ((w2.length : Int) = 0) = False := eq_false (by intro q; exact hw (List.length_eq_zero_iff.1 (by omega)))
      simp +contextual only [eql26, (hS.v.ext hx2).len, z, ↓wA, wB, wZ, repeatV, RX.evs, spl, over, ones, Ex.ends, evR, oneOf, top, ↓reduceIte, Nat.reduceEqDiff, Nat.reduceLeDiff, Nat.reduceAdd, Nat.reduceSub, Nat.reduceMul, reduceCtorEq, Int.reduceEq, Int.reduceLT, Int.reduceLE, Int.reduceNeg, Int.reduceAdd, Int.reduceSub]
      exact ⟨by simp [hw], hx.trans hx2⟩
  | error e =>
    rw [hlm] at hl
    subst hl
    have hx2 : Ext h1 ((h1.new (.ofL [.int .i64 0, .int .i64 0] 0 false)).set (pa h1.next) (.ofL [.int .i64 e.1, .int .i64 e.2] 0 false)) := ((Ext.refl h1).new _).set (Nat.le_refl _) _
    simp +contextual only [eql26, ↓wA, wB, wZ, repeatV, RX.evs, spl, over, ones, Ex.ends, evR, oneOf, top, ↓reduceIte, Nat.reduceEqDiff, Nat.reduceLeDiff, Nat.reduceAdd, Nat.reduceSub, Nat.reduceMul, reduceCtorEq, Int.reduceEq, Int.reduceLT, Int.reduceLE, Int.reduceNeg, Int.reduceAdd, Int.reduceSub]
    exact hx.trans hx2

theorem awake1 : lexM [39, 97, 32, 45, 62, 32, 66] = .ok [⟨5, 0, 0, [97]⟩, ⟨7, 0, 3, [45, 62]⟩, ⟨4, 0, 6, [66]⟩] := by kernel_rfl
theorem awake2 : lexM [97, 32, 35, 32, 98] = .error (251, 2) := by kernel_rfl
theorem awake3 : lexEq [39, 97, 32, 45, 62, 32, 66] [⟨5, 0, 0, [97]⟩, ⟨7, 0, 3, [45, 62]⟩, ⟨4, 0, 6, [66]⟩] = true := by unfold lexEq; rw [awake1]; rfl
theorem awake_ctr (h : Heap) : Ctr Tryd.prog 9 [] h fun x h' => x = .bool true ∧ Ext h h' := by
  refine c9_ctr rfl (wpK_of ?_)
  unfold c9
  simp +contextual only [↓wA, wB, wZ, repeatV, RX.evs, spl, over, ones, Ex.ends, evR, oneOf, top, ↓reduceIte, Nat.reduceEqDiff, Nat.reduceLeDiff, Nat.reduceAdd, Nat.reduceSub, Nat.reduceMul, reduceCtorEq, Int.reduceEq, Int.reduceLT, Int.reduceLE, Int.reduceNeg, Int.reduceAdd, Int.reduceSub]
  have hx : Ext h (h.new (.ofL (wdsV [⟨5, 0, 0, [97]⟩, ⟨7, 0, 3, [45, 62]⟩, ⟨4, 0, 6, [66]⟩]) 0 false)) := (Ext.refl h).new _
  refine callK_intro (has_ctr _ _ [⟨5, 0, 0, [97]⟩, ⟨7, 0, 3, [45, 62]⟩, ⟨4, 0, 6, [66]⟩] _ ⟨rfl, rfl, old_lt (by rw [next_new]; omega), _, .inr ⟨0, false, by rw [get_new_self]⟩, by decide, rfl⟩) ?_
  rintro x h1 ⟨rfl, hx1⟩
  rw [awake3]
  simp +contextual only [↓wA, wB, wZ, repeatV, RX.evs, spl, over, ones, Ex.ends, evR, oneOf, top, ↓reduceIte, Nat.reduceEqDiff, Nat.reduceLeDiff, Nat.reduceAdd, Nat.reduceSub, Nat.reduceMul, reduceCtorEq, Int.reduceEq, Int.reduceLT, Int.reduceLE, Int.reduceNeg, Int.reduceAdd, Int.reduceSub]
  refine callK_intro (faulty_ctr _ _ _ _) ?_
  rintro x h2 ⟨rfl, hx2⟩
  rw [awake2]
  simp +contextual only [↓wA, wB, wZ, repeatV, RX.evs, spl, over, ones, Ex.ends, evR, oneOf, top, ↓reduceIte, Nat.reduceEqDiff, Nat.reduceLeDiff, Nat.reduceAdd, Nat.reduceSub, Nat.reduceMul, reduceCtorEq, Int.reduceEq, Int.reduceLT, Int.reduceLE, Int.reduceNeg, Int.reduceAdd, Int.reduceSub]
  exact ⟨by decide, (hx.trans hx1).trans hx2⟩
end Go.Proofs.YthcgccnbhdociaaDoor

namespace Go.Proofs.YthcgccnbhdociaaDoor
open Go Am
set_option linter.unusedSectionVars false
set_option linter.unusedSimpArgs false
set_option linter.unusedVariables false

/-- what Lex says of a text, in one: the error, its place, the words -/
def lexE (s : List UInt8) : Int × Int × List Wd := match lexM s with
  | .ok ws => (0, 0, ws)
  | .error e => (e.1, e.2, [])
theorem lexE_len (s : List UInt8) : (lexE s).2.2.length ≤ 65536 := by
  unfold lexE
  cases h : lexM s with
  | ok ws => exact lexM_len h
  | error e => simp
theorem LexOut.view {s : List UInt8} {h h' : Heap} {x : V} (H : LexOut s h x h') : Ext h h' ∧ ∃ v, x = .tuple [v, .agg [.int .i64 (lexE s).1, .int .i64 (lexE s).2.1]] ∧ SlO h.next h' 4 v (lexE s).2.2.length (wdsV (lexE s).2.2) := by
  obtain ⟨h1, h2⟩ := H
  refine ⟨h1, ?_⟩
  unfold lexE
  cases hl : lexM s with
  | ok ws => rw [hl] at h2; exact h2
  | error e => rw [hl] at h2; exact ⟨.nilslice, h2, rfl, rfl⟩

theorem lexRight (s : List UInt8) (h : Heap) : Ctr Tryd.prog 4 [.str s] h fun y _ => y = .bool true := by
  refine c4_ctr rfl (wpK_of ?_)
  unfold c4
  by_cases hl : (3000 : Int) < (s.length : Int)
  · simp +contextual only [hl, ↓wA, wB, wZ, repeatV, RX.evs, spl, over, ones, Ex.ends, evR, oneOf, top, ↓reduceIte, Nat.reduceEqDiff, Nat.reduceLeDiff, Nat.reduceAdd, Nat.reduceSub, Nat.reduceMul, reduceCtorEq, Int.reduceEq, Int.reduceLT, Int.reduceLE, Int.reduceNeg, Int.reduceAdd, Int.reduceSub]
    refine callK_intro (awake_ctr _) ?_
    rintro x h2 ⟨rfl, hx2⟩
    simp +contextual only [↓wA, wB, wZ, repeatV, RX.evs, spl, over, ones, Ex.ends, evR, oneOf, top, ↓reduceIte, Nat.reduceEqDiff, Nat.reduceLeDiff, Nat.reduceAdd, Nat.reduceSub, Nat.reduceMul, reduceCtorEq, Int.reduceEq, Int.reduceLT, Int.reduceLE, Int.reduceNeg, Int.reduceAdd, Int.reduceSub]
  · simp +contextual only [hl, ↓wA, wB, wZ, repeatV, RX.evs, spl, over, ones, Ex.ends, evR, oneOf, top, ↓reduceIte, Nat.reduceEqDiff, Nat.reduceLeDiff, Nat.reduceAdd, Nat.reduceSub, Nat.reduceMul, reduceCtorEq, Int.reduceEq, Int.reduceLT, Int.reduceLE, Int.reduceNeg, Int.reduceAdd, Int.reduceSub]
    refine callK_intro (right_ctr s (by omega) _) ?_
    rintro x h1 ⟨rfl, hx1⟩
    simp +contextual only [↓wA, wB, wZ, repeatV, RX.evs, spl, over, ones, Ex.ends, evR, oneOf, top, ↓reduceIte, Nat.reduceEqDiff, Nat.reduceLeDiff, Nat.reduceAdd, Nat.reduceSub, Nat.reduceMul, reduceCtorEq, Int.reduceEq, Int.reduceLT, Int.reduceLE, Int.reduceNeg, Int.reduceAdd, Int.reduceSub]
    refine callK_pure (refright_ctr s (by omega) _) ?_
    simp +contextual only [↓wA, wB, wZ, repeatV, RX.evs, spl, over, ones, Ex.ends, evR, oneOf, top, ↓reduceIte, Nat.reduceEqDiff, Nat.reduceLeDiff, Nat.reduceAdd, Nat.reduceSub, Nat.reduceMul, reduceCtorEq, Int.reduceEq, Int.reduceLT, Int.reduceLE, Int.reduceNeg, Int.reduceAdd, Int.reduceSub]
    refine callK_intro (awake_ctr _) ?_
    rintro x h2 ⟨rfl, hx2⟩
    simp +contextual only [↓wA, wB, wZ, repeatV, RX.evs, spl, over, ones, Ex.ends, evR, oneOf, top, ↓reduceIte, Nat.reduceEqDiff, Nat.reduceLeDiff, Nat.reduceAdd, Nat.reduceSub, Nat.reduceMul, reduceCtorEq, Int.reduceEq, Int.reduceLT, Int.reduceLE, Int.reduceNeg, Int.reduceAdd, Int.reduceSub]

theorem lexTells (s : List UInt8) (h : Heap) : Ctr Tryd.prog 3 [.str s] h fun y _ => y = .bool true := by
  refine c3_ctr rfl (wpK_of ?_)
  unfold c3
  by_cases hl : (3000 : Int) < (s.length : Int)
  · simp +contextual only [hl, ↓wA, wB, wZ, repeatV, RX.evs, spl, over, ones, Ex.ends, evR, oneOf, top, ↓reduceIte, Nat.reduceEqDiff, Nat.reduceLeDiff, Nat.reduceAdd, Nat.reduceSub, Nat.reduceMul, reduceCtorEq, Int.reduceEq, Int.reduceLT, Int.reduceLE, Int.reduceNeg, Int.reduceAdd, Int.reduceSub]
    refine callK_intro (awake_ctr _) ?_
    rintro x h2 ⟨rfl, hx2⟩
    simp +contextual only [↓wA, wB, wZ, repeatV, RX.evs, spl, over, ones, Ex.ends, evR, oneOf, top, ↓reduceIte, Nat.reduceEqDiff, Nat.reduceLeDiff, Nat.reduceAdd, Nat.reduceSub, Nat.reduceMul, reduceCtorEq, Int.reduceEq, Int.reduceLT, Int.reduceLE, Int.reduceNeg, Int.reduceAdd, Int.reduceSub]
  · simp +contextual only [hl, ↓wA, wB, wZ, repeatV, RX.evs, spl, over, ones, Ex.ends, evR, oneOf, top, ↓reduceIte, Nat.reduceEqDiff, Nat.reduceLeDiff, Nat.reduceAdd, Nat.reduceSub, Nat.reduceMul, reduceCtorEq, Int.reduceEq, Int.reduceLT, Int.reduceLE, Int.reduceNeg, Int.reduceAdd, Int.reduceSub]
    refine callK_intro (lex_ctr s _) ?_
    rintro x h1 hL1
    obtain ⟨hx1, v1, rfl, hS1⟩ := hL1.view
    have hlen := lexE_len s
    have hN1 : Ext h1 ((h1.new (.ofL [.int .i64 0, .int .i64 0] 0 false)).set (pa h1.next) (.ofL [.int .i64 (lexE s).1, .int .i64 (lexE s).2.1] 0 false)) := ((Ext.refl h1).new _).set (Nat.le_refl _) _
    have g1 : ((h1.new (.ofL [.int .i64 0, .int .i64 0] 0 false)).set (pa h1.next) (.ofL [.int .i64 (lexE s).1, .int .i64 (lexE s).2.1] 0 false)).get (pa h1.next) = .ofL [.int .i64 (lexE s).1, .int .i64 (lexE s).2.1] 0 false := by rw [get_set, if_pos rfl]
    have nx1 : ((h1.new (.ofL [.int .i64 0, .int .i64 0] 0 false)).set (pa h1.next) (.ofL [.int .i64 (lexE s).1, .int .i64 (lexE s).2.1] 0 false)).next = h1.next + 1 := rfl
    simp +contextual only [↓wA, wB, wZ, repeatV, RX.evs, spl, over, ones, Ex.ends, evR, oneOf, top, ↓reduceIte, Nat.reduceEqDiff, Nat.reduceLeDiff, Nat.reduceAdd, Nat.reduceSub, Nat.reduceMul, reduceCtorEq, Int.reduceEq, Int.reduceLT, Int.reduceLE, Int.reduceNeg, Int.reduceAdd, Int.reduceSub]
    generalize hH1 : (h1.new (.ofL [.int .i64 0, .int .i64 0] 0 false)).set (pa h1.next) (.ofL [.int .i64 (lexE s).1, .int .i64 (lexE s).2.1] 0 false) = H1 at *
    refine callK_intro (reflex_ctr s _) ?_
    rintro x h2 hL2
    obtain ⟨hx2, v2, rfl, hS2⟩ := hL2.view
    have nx2 : h1.next + 1 ≤ h2.next := by have := hx2.next; omega
    have g2 : h2.get (pa h1.next) = .ofL [.int .i64 (lexE s).1, .int .i64 (lexE s).2.1] 0 false := by rw [hx2.get _ (old_lt (by omega)), g1]
    have hN2 : Ext h2 ((h2.new (.ofL [.int .i64 0, .int .i64 0] 0 false)).set (pa h2.next) (.ofL [.int .i64 (lexE s).1, .int .i64 (lexE s).2.1] 0 false)) := ((Ext.refl h2).new _).set (Nat.le_refl _) _
    have k1 : ((h2.new (.ofL [.int .i64 0, .int .i64 0] 0 false)).set (pa h2.next) (.ofL [.int .i64 (lexE s).1, .int .i64 (lexE s).2.1] 0 false)).get (pa h1.next) = .ofL [.int .i64 (lexE s).1, .int .i64 (lexE s).2.1] 0 false := by rw [hN2.get _ (old_lt (by omega)), g2]
    have k2 : ((h2.new (.ofL [.int .i64 0, .int .i64 0] 0 false)).set (pa h2.next) (.ofL [.int .i64 (lexE s).1, .int .i64 (lexE s).2.1] 0 false)).get (pa h2.next) = .ofL [.int .i64 (lexE s).1, .int .i64 (lexE s).2.1] 0 false := by rw [get_set, if_pos rfl]
    simp +contextual only [↓wA, wB, wZ, repeatV, RX.evs, spl, over, ones, Ex.ends, evR, oneOf, top, ↓reduceIte, Nat.reduceEqDiff, Nat.reduceLeDiff, Nat.reduceAdd, Nat.reduceSub, Nat.reduceMul, reduceCtorEq, Int.reduceEq, Int.reduceLT, Int.reduceLE, Int.reduceNeg, Int.reduceAdd, Int.reduceSub]
    generalize hH2 : (h2.new (.ofL [.int .i64 0, .int .i64 0] 0 false)).set (pa h2.next) (.ofL [.int .i64 (lexE s).1, .int .i64 (lexE s).2.1] 0 false) = H2 at *
    have hSa : SlO h.next H2 4 v1 (lexE s).2.2.length (wdsV (lexE s).2.2) := ((hS1.ext hN1).ext hx2).ext hN2
    have hSb : SlO H1.next H2 4 v2 (lexE s).2.2.length (wdsV (lexE s).2.2) := hS2.ext hN2
    have hnx2 : h2.next ≤ H2.next := hN2.next
    refine callK_pure (same_pure v1 v2 _ _ H2 hSa.v hSb.v (by omega)) ?_
    have ht : decide ((lexE s).2.2 = (lexE s).2.2) = true := decide_eq_true rfl
    have hda : decide ((lexE s).1 = (lexE s).1) = true := decide_eq_true rfl
    have hdb : decide ((lexE s).2.1 = (lexE s).2.1) = true := decide_eq_true rfl
    simp +contextual only [ht, k1, k2, neq26, hda, hdb, ↓wA, wB, wZ, repeatV, RX.evs, spl, over, ones, Ex.ends, evR, oneOf, top, ↓reduceIte, Nat.reduceEqDiff, Nat.reduceLeDiff, Nat.reduceAdd, Nat.reduceSub, Nat.reduceMul, reduceCtorEq, Int.reduceEq, Int.reduceLT, Int.reduceLE, Int.reduceNeg, Int.reduceAdd, Int.reduceSub]
    have hsep : ∀ b, v1.blk b → ¬ v2.blk b := by
      intro b hb hb2
      have q1 : unPa b < h1.next := hS1.v.old hb
      have q2 := hSb.base hb2
      omega
    refine loopK_intro (fun r h' => r 0 = .str s ∧ r 3 = v1 ∧ r 5 = v2 ∧ ∃ i : Nat, r 7 = .int .i64 i ∧ i ≤ (lexE s).2.2.length ∧ ∃ us, SlO h.next h' 4 v1 (lexE s).2.2.length us ∧ Mod v1.blk H2 h') (fun r h' => (lexE s).2.2.length - (r 7).toN) ?_ ?_
    · exact ⟨by simp only [↓wA, wB, wZ, repeatV, RX.evs, spl, over, ones, Ex.ends, evR, oneOf, top, ↓reduceIte, Nat.reduceEqDiff, Nat.reduceLeDiff, Nat.reduceAdd, Nat.reduceSub, Nat.reduceMul, reduceCtorEq, Int.reduceEq, Int.reduceLT, Int.reduceLE, Int.reduceNeg, Int.reduceAdd, Int.reduceSub], by simp only [↓wA, wB, wZ, repeatV, RX.evs, spl, over, ones, Ex.ends, evR, oneOf, top, ↓reduceIte, Nat.reduceEqDiff, Nat.reduceLeDiff, Nat.reduceAdd, Nat.reduceSub, Nat.reduceMul, reduceCtorEq, Int.reduceEq, Int.reduceLT, Int.reduceLE, Int.reduceNeg, Int.reduceAdd, Int.reduceSub], by simp only [↓wA, wB, wZ, repeatV, RX.evs, spl, over, ones, Ex.ends, evR, oneOf, top, ↓reduceIte, Nat.reduceEqDiff, Nat.reduceLeDiff, Nat.reduceAdd, Nat.reduceSub, Nat.reduceMul, reduceCtorEq, Int.reduceEq, Int.reduceLT, Int.reduceLE, Int.reduceNeg, Int.reduceAdd, Int.reduceSub], 0, by simp only [↓wA, wB, wZ, repeatV, RX.evs, spl, over, ones, Ex.ends, evR, oneOf, top, ↓reduceIte, Nat.reduceEqDiff, Nat.reduceLeDiff, Nat.reduceAdd, Nat.reduceSub, Nat.reduceMul, reduceCtorEq, Int.reduceEq, Int.reduceLT, Int.reduceLE, Int.reduceNeg, Int.reduceAdd, Int.reduceSub]; rfl, by omega, _, hSa, Mod.refl _ _⟩
    · rintro r h' ⟨r0, r3, r5, i, r7, hi, us, hS, hm⟩
      unfold c3l1
      by_cases hlt : i < (lexE s).2.2.length
      · have g0 : ((i : Int) < ((lexE s).2.2.length : Int)) = True := eq_true (by omega)
        have w : IntKind.i64.wrap ((i : Int) + 1) = ((i + 1 : Nat) : Int) := by rw [wrap_i64 (by omega) (by omega)]; rfl
        obtain ⟨b, off, h3, p1, p2, p3, p4, p5⟩ := hS.put (k := .i64) hlt (y := .agg [.int .i64 0, .int .i64 0, .int .i64 0, .str []]) rfl rfl
        simp only [store_ptr] at p3
        simp +contextual only [r0, r3, r5, r7, g0, w, hS.v.len, p1, p3, ↓wA, wB, wZ, repeatV, RX.evs, spl, over, ones, Ex.ends, evR, oneOf, top, ↓reduceIte, Nat.reduceEqDiff, Nat.reduceLeDiff, Nat.reduceAdd, Nat.reduceSub, Nat.reduceMul, reduceCtorEq, Int.reduceEq, Int.reduceLT, Int.reduceLE, Int.reduceNeg, Int.reduceAdd, Int.reduceSub]
        exact ⟨⟨i + 1, rfl, hlt, _, p4, hm.trans p5⟩, by omega⟩
      · have g0 : ((i : Int) < ((lexE s).2.2.length : Int)) = False := eq_false (by omega)
        simp +contextual only [r0, r3, r5, r7, g0, hS.v.len, ↓wA, wB, wZ, repeatV, RX.evs, spl, over, ones, Ex.ends, evR, oneOf, top, ↓reduceIte, Nat.reduceEqDiff, Nat.reduceLeDiff, Nat.reduceAdd, Nat.reduceSub, Nat.reduceMul, reduceCtorEq, Int.reduceEq, Int.reduceLT, Int.reduceLE, Int.reduceNeg, Int.reduceAdd, Int.reduceSub]
        refine callK_intro (lex_ctr s _) ?_
        rintro x h4 hL4
        obtain ⟨hx4, v4, rfl, hS4⟩ := hL4.view
        have hSb' : SlV h' 4 v2 (lexE s).2.2.length (wdsV (lexE s).2.2) := hSb.v.mod hm (fun b hb hq => hsep b hq hb)
        have hN4 : Ext h4 ((h4.new (.ofL [.int .i64 0, .int .i64 0] 0 false)).set (pa h4.next) (.ofL [.int .i64 (lexE s).1, .int .i64 (lexE s).2.1] 0 false)) := ((Ext.refl h4).new _).set (Nat.le_refl _) _
        simp +contextual only [r5, ↓wA, wB, wZ, repeatV, RX.evs, spl, over, ones, Ex.ends, evR, oneOf, top, ↓reduceIte, Nat.reduceEqDiff, Nat.reduceLeDiff, Nat.reduceAdd, Nat.reduceSub, Nat.reduceMul, reduceCtorEq, Int.reduceEq, Int.reduceLT, Int.reduceLE, Int.reduceNeg, Int.reduceAdd, Int.reduceSub]
        refine callK_pure (same_pure v4 v2 _ _ _ (hS4.v.ext hN4) ((hSb'.ext hx4).ext hN4) (by omega)) ?_
        simp +contextual only [ht, ↓wA, wB, wZ, repeatV, RX.evs, spl, over, ones, Ex.ends, evR, oneOf, top, ↓reduceIte, Nat.reduceEqDiff, Nat.reduceLeDiff, Nat.reduceAdd, Nat.reduceSub, Nat.reduceMul, reduceCtorEq, Int.reduceEq, Int.reduceLT, Int.reduceLE, Int.reduceNeg, Int.reduceAdd, Int.reduceSub]
        refine callK_intro (awake_ctr _) ?_
        rintro x h5 ⟨rfl, hx5⟩
        simp +contextual only [↓wA, wB, wZ, repeatV, RX.evs, spl, over, ones, Ex.ends, evR, oneOf, top, ↓reduceIte, Nat.reduceEqDiff, Nat.reduceLeDiff, Nat.reduceAdd, Nat.reduceSub, Nat.reduceMul, reduceCtorEq, Int.reduceEq, Int.reduceLT, Int.reduceLE, Int.reduceNeg, Int.reduceAdd, Int.reduceSub]
end Go.Proofs.YthcgccnbhdociaaDoor

namespace Go.Proofs.YthcgccnbhdociaaDoor
open Go Am
set_option linter.unusedSectionVars false
set_option linter.unusedSimpArgs false
set_option linter.unusedVariables false

theorem pick_ctr (x : Int) (h : Heap) : Ctr Tryd.prog 15 [.int .i64 x, .int .i64 5] h fun y h' => h' = h ∧ ∃ k : Nat, k < 5 ∧ y = .int .i64 k := by
  refine c15_ctr rfl (wpK_of ?_)
  unfold c15
  have hrem : (BK.int .rem).run Tryd.prog (.int .i64 x) (.int .i64 5) = some (.int .i64 (x.tmod 5)) := k_rem .i64 _ _ (by decide)
  have b1 : x.tmod 5 < 5 := Int.tmod_lt_of_pos _ (by decide)
  have b0 : -5 < x.tmod 5 := by
    have := Int.tmod_lt_of_pos (-x) (show (0 : Int) < 5 by decide)
    rw [Int.neg_tmod] at this
    omega
  have w : IntKind.i64.wrap (x.tmod 5 + 5) = x.tmod 5 + 5 := wrap_i64 (by omega) (by omega)
  by_cases hn : x.tmod 5 < 0
  · simp +contextual only [hrem, hn, w, ↓wA, wB, wZ, repeatV, RX.evs, spl, over, ones, Ex.ends, evR, oneOf, top, ↓reduceIte, Nat.reduceEqDiff, Nat.reduceLeDiff, Nat.reduceAdd, Nat.reduceSub, Nat.reduceMul, reduceCtorEq, Int.reduceEq, Int.reduceLT, Int.reduceLE, Int.reduceNeg, Int.reduceAdd, Int.reduceSub]
    exact ⟨(x.tmod 5 + 5).toNat, by omega, by rw [Int.toNat_of_nonneg (by omega)]⟩
  · simp +contextual only [hrem, hn, w, ↓wA, wB, wZ, repeatV, RX.evs, spl, over, ones, Ex.ends, evR, oneOf, top, ↓reduceIte, Nat.reduceEqDiff, Nat.reduceLeDiff, Nat.reduceAdd, Nat.reduceSub, Nat.reduceMul, reduceCtorEq, Int.reduceEq, Int.reduceLT, Int.reduceLE, Int.reduceNeg, Int.reduceAdd, Int.reduceSub]
    exact ⟨(x.tmod 5).toNat, by omega, by rw [Int.toNat_of_nonneg (by omega)]⟩

/-- a text, so often -/
def rep (t : List UInt8) : Nat → List UInt8
  | 0 => []
  | n + 1 => rep t n ++ t
theorem rep_len (t : List UInt8) : ∀ n, (rep t n).length = n * t.length
  | 0 => by simp [rep]
  | n + 1 => by rw [rep, List.length_append, rep_len t n, Nat.add_mul, Nat.one_mul]
theorem rep_cons (t : List UInt8) : ∀ n, rep t (n + 1) = t ++ rep t n
  | 0 => by simp [rep]
  | n + 1 => by
    show rep t (n + 1) ++ t = t ++ (rep t n ++ t)
    rw [rep_cons t n, List.append_assoc]

theorem repeat_ctr (t : List UInt8) (n : Nat) (h : Heap) (hb : n * t.length ≤ 1000000) (hn : n ≤ 1000000) : Ctr Tryd.prog 16 [.str t, .int .i64 n] h fun y h' => y = .str (rep t n) ∧ Ext h h' := by
  refine c16_ctr rfl (wpK_of ?_)
  unfold c16
  simp +contextual only [↓wA, wB, wZ, repeatV, RX.evs, spl, over, ones, Ex.ends, evR, oneOf, top, ↓reduceIte, Nat.reduceEqDiff, Nat.reduceLeDiff, Nat.reduceAdd, Nat.reduceSub, Nat.reduceMul, reduceCtorEq, Int.reduceEq, Int.reduceLT, Int.reduceLE, Int.reduceNeg, Int.reduceAdd, Int.reduceSub]
  refine loopK_intro (fun r h' => r 0 = .str t ∧ r 1 = .int .i64 n ∧ ∃ (i : Nat) (v : V), r 6 = .int .i64 i ∧ r 5 = v ∧ i ≤ n ∧ SlO h.next h' 1 v (i * t.length) (bytesV (rep t i)) ∧ Ext h h') (fun r h' => n - (r 6).toN) ?_ ?_
  · exact ⟨by simp only [↓wA, wB, wZ, repeatV, RX.evs, spl, over, ones, Ex.ends, evR, oneOf, top, ↓reduceIte, Nat.reduceEqDiff, Nat.reduceLeDiff, Nat.reduceAdd, Nat.reduceSub, Nat.reduceMul, reduceCtorEq, Int.reduceEq, Int.reduceLT, Int.reduceLE, Int.reduceNeg, Int.reduceAdd, Int.reduceSub], by simp only [↓wA, wB, wZ, repeatV, RX.evs, spl, over, ones, Ex.ends, evR, oneOf, top, ↓reduceIte, Nat.reduceEqDiff, Nat.reduceLeDiff, Nat.reduceAdd, Nat.reduceSub, Nat.reduceMul, reduceCtorEq, Int.reduceEq, Int.reduceLT, Int.reduceLE, Int.reduceNeg, Int.reduceAdd, Int.reduceSub], 0, .nilslice, by simp only [↓wA, wB, wZ, repeatV, RX.evs, spl, over, ones, Ex.ends, evR, oneOf, top, ↓reduceIte, Nat.reduceEqDiff, Nat.reduceLeDiff, Nat.reduceAdd, Nat.reduceSub, Nat.reduceMul, reduceCtorEq, Int.reduceEq, Int.reduceLT, Int.reduceLE, Int.reduceNeg, Int.reduceAdd, Int.reduceSub]; rfl, by simp only [↓wA, wB, wZ, repeatV, RX.evs, spl, over, ones, Ex.ends, evR, oneOf, top, ↓reduceIte, Nat.reduceEqDiff, Nat.reduceLeDiff, Nat.reduceAdd, Nat.reduceSub, Nat.reduceMul, reduceCtorEq, Int.reduceEq, Int.reduceLT, Int.reduceLE, Int.reduceNeg, Int.reduceAdd, Int.reduceSub], by omega, ⟨by simp [rep, bytesV], by simp⟩, Ext.refl _⟩
  · rintro r h' ⟨r0, r1, i, v, r6, r5, hi, hS, hx⟩
    unfold c16l1
    by_cases hlt : i < n
    · have g0 : ((i : Int) < (n : Int)) = True := eq_true (by omega)
      have w : IntKind.i64.wrap ((i : Int) + 1) = ((i + 1 : Nat) : Int) := by rw [wrap_i64 (by omega) (by omega)]; rfl
      have hm : (i + 1) * t.length ≤ n * t.length := Nat.mul_le_mul_right _ hlt
      rw [Nat.add_mul, Nat.one_mul] at hm
      obtain ⟨v3, h3, q1, q2, q3, q4⟩ := app_str t hS hx.next (by unfold top; omega)
      simp +contextual only [r0, r1, r6, r5, g0, w, q1, ↓wA, wB, wZ, repeatV, RX.evs, spl, over, ones, Ex.ends, evR, oneOf, top, ↓reduceIte, Nat.reduceEqDiff, Nat.reduceLeDiff, Nat.reduceAdd, Nat.reduceSub, Nat.reduceMul, reduceCtorEq, Int.reduceEq, Int.reduceLT, Int.reduceLE, Int.reduceNeg, Int.reduceAdd, Int.reduceSub]
      refine ⟨⟨i + 1, v3, rfl, rfl, hlt, ?_, hx.mod_new q3 (fun b hb => hS.base hb)⟩, by omega⟩
      rw [Nat.add_mul, Nat.one_mul, rep, bytesV_append]
      exact q2
    · obtain rfl : i = n := by omega
      have g0 : ((i : Int) < (i : Int)) = False := eq_false (by omega)
      have hS' : SlO h.next h' 1 v (rep t i).length (bytesV (rep t i)) := by rw [rep_len]; exact hS
      simp +contextual only [r0, r1, r6, r5, g0, convStr_own hS, ↓wA, wB, wZ, repeatV, RX.evs, spl, over, ones, Ex.ends, evR, oneOf, top, ↓reduceIte, Nat.reduceEqDiff, Nat.reduceLeDiff, Nat.reduceAdd, Nat.reduceSub, Nat.reduceMul, reduceCtorEq, Int.reduceEq, Int.reduceLT, Int.reduceLE, Int.reduceNeg, Int.reduceAdd, Int.reduceSub]
      exact hx

/-! How long: the plain law. -/
theorem ascii_right {s : List UInt8} (h : ∀ c ∈ s, c.toNat < 128) : rightM s = s.length := by
  have hc : ∀ a, a < s.length → cw s a = 1 := by
    intro a ha
    have hd : decodeL s a = ((s[a]).toNat, 1) := by
      unfold decodeL
      rw [Lib.decode_at]
      simp only [get_ba, List.getElem?_eq_getElem ha, Option.getD_some]
      unfold Lib.decodeN
      rw [if_pos (h _ (List.getElem_mem ha))]
    unfold cw
    rw [hd, if_neg (by
      have := h _ (List.getElem_mem ha)
      simp only [Prod.mk.injEq, and_true]
      omega)]
  have : ∀ n a, s.length - a = n → a ≤ s.length → rightA s a = s.length := by
    intro n
    induction n with
    | zero => intro a h1 h2; exact rightA_end (by omega)
    | succ n ih =>
      intro a h1 h2
      have hlt : a < s.length := by omega
      rw [rightA_step hlt (by rw [hc a hlt]; decide), hc a hlt]
      exact ih _ (by omega) (by omega)
  exact this s.length 0 (by omega) (by omega)
theorem lexM_ascii {s : List UInt8} (h : ∀ c ∈ s, c.toNat < 128) : lexM s = if 65536 < s.length then .error (3, 0) else lexR s 0 := by
  unfold lexM
  rw [ascii_right h, if_neg (Nat.lt_irrefl _)]
theorem mem_rep {t : List UInt8} {c : UInt8} : ∀ {n : Nat}, c ∈ rep t n → c ∈ t
  | 0, h => by simp [rep] at h
  | n + 1, h => by
    rw [rep, List.mem_append] at h
    exact h.elim mem_rep id
theorem lexR_blanks (r : List UInt8) : ∀ (n p : Nat), lexR (rep [32] n ++ r) p = lexR r (p + n)
  | 0, p => rfl
  | n + 1, p => by
    rw [rep_cons, List.append_assoc]
    show lexR (32 :: (rep [32] n ++ r)) p = _
    rw [lexR_cons, if_pos (by decide), lexR_blanks r n (p + 1)]
    congr 1
    omega
theorem take_rep {c : UInt8} (h : ltr c = true) : ∀ n, (rep [c] n).takeWhile ltr = rep [c] n
  | 0 => rfl
  | n + 1 => by
    rw [rep_cons]
    show List.takeWhile ltr (c :: rep [c] n) = _
    rw [List.takeWhile_cons, if_pos h, take_rep h n]
    rfl
theorem textM_rep : ∀ n, textM (rep [92, 48, 48, 49] n ++ [34]) = some (rep [1] n, 4 * n + 1)
  | 0 => by rw [show rep [92, 48, 48, 49] 0 ++ [34] = [34] from rfl, textM_cons]; rfl
  | n + 1 => by
    rw [rep_cons, List.append_assoc]
    show textM (92 :: ([48, 48, 49] ++ (rep [92, 48, 48, 49] n ++ [34]))) = _
    rw [textM_cons, if_neg (by decide), if_pos rfl]
    have he : escM ([48, 48, 49] ++ (rep [92, 48, 48, 49] n ++ [34])) = some (1, 3) := by
      show escM (48 :: 48 :: 49 :: (rep [92, 48, 48, 49] n ++ [34])) = _
      rw [escM_cons, if_neg (by decide), if_neg (by decide), if_neg (by decide), if_neg (by decide), if_pos ⟨by simp, by decide, by simp; decide, by simp; decide, by simp; decide⟩]
      simp
      decide
    rw [he]
    simp only
    rw [show List.drop 3 ([48, 48, 49] ++ (rep [92, 48, 48, 49] n ++ [34])) = rep [92, 48, 48, 49] n ++ [34] from rfl, textM_rep n]
    simp only [Option.map_some, Option.some.injEq, Prod.mk.injEq]
    rw [rep_cons]
    exact ⟨rfl, by omega⟩

theorem lexE_one {c : UInt8} {r : List UInt8} (ha : ∀ x ∈ c :: r, x.toNat < 128) (hl : (c :: r).length ≤ 65536) (hb : blank c = false) (hp : ([40, 42] : List UInt8).isPrefixOf (c :: r) = false) :
    (∀ e, nextM (c :: r) = .error e → (lexE (c :: r)).1 = e) ∧ (∀ q, nextM (c :: r) = .ok q → q.2.2.2 = (c :: r).length → (lexE (c :: r)).1 = 0) := by
  have hm : lexM (c :: r) = lexR (c :: r) 0 := by rw [lexM_ascii ha, if_neg (by omega)]
  rw [lexR_cons, hb, if_neg Bool.false_ne_true, hp, if_neg Bool.false_ne_true] at hm
  unfold lexE
  refine ⟨fun e he => ?_, fun q hq hl => ?_⟩
  · rw [he] at hm
    rw [hm]
  · rw [hq] at hm
    simp only at hm
    rw [hl, List.drop_length] at hm
    rw [hm]
    rfl
theorem nameM_rep {c : UInt8} (h : ltr c = true) (k : Int) {m : Nat} (hm : 10 ≤ m) : nameM k (rep [c] m) = if 64 < m then .error 255 else .ok (k, 0, rep [c] m, m) := by
  have hlen : (rep [c] m).length = m := by rw [rep_len]; simp
  have hk : keyB (rep [c] m) = false := by
    cases hq : keyB (rep [c] m) with
    | false => rfl
    | true => have := (key_head hq).2; omega
  have hu : ¬ rep [c] m = [95] := by intro e; rw [e] at hlen; simp at hlen; omega
  unfold nameM
  simp only [take_rep h, hk, hu, hlen, and_false, if_false, Bool.false_eq_true]
theorem rep_head (c : UInt8) {m : Nat} (hm : 1 ≤ m) : ∃ r, rep [c] m = c :: r ∧ r.length = m - 1 := by
  obtain ⟨n, rfl⟩ : ∃ n, m = n + 1 := ⟨m - 1, by omega⟩
  exact ⟨rep [c] n, rep_cons [c] n, by rw [rep_len]; simp⟩

theorem long0 (m : Nat) : ((lexE (rep [32] m ++ [97])).1 = 0) = (m + 1 ≤ 65536) := by
  have ha : ∀ x ∈ rep [32] m ++ [97], x.toNat < 128 := by
    intro x hx
    rw [List.mem_append] at hx
    rcases hx with hx | hx
    · have := mem_rep hx; simp at this; subst this; decide
    · simp at hx; subst hx; decide
  have hl : (rep [32] m ++ [97]).length = m + 1 := by rw [List.length_append, rep_len]; simp
  unfold lexE
  rw [lexM_ascii ha, hl]
  by_cases h : 65536 < m + 1
  · rw [if_pos h]
    simp only [eq_iff_iff]
    exact ⟨fun q => absurd q (by decide), fun q => by omega⟩
  · rw [if_neg h, lexR_blanks]
    have : lexR [97] (0 + m) = .ok [⟨3, 0, 0 + m, [97]⟩] := by
      rw [lexR_cons]
      rfl
    rw [this]
    simp only [eq_iff_iff]
    exact ⟨fun _ => by omega, fun _ => trivial⟩
theorem longname (c : UInt8) (k : Int) (hc : ltr c = true) (ha : c.toNat < 128) (hb : blank c = false) (h40 : c ≠ 40) (hn : ∀ r, nextM (c :: r) = nameM k (c :: r)) (m : Nat) (hm : 10 ≤ m) (hm2 : m ≤ 60000) : ((lexE (rep [c] m)).1 = 0) = (m ≤ 64) := by
  obtain ⟨r, hr, hrl⟩ := rep_head c (show 1 ≤ m by omega)
  have hlen : (rep [c] m).length = m := by rw [rep_len]; simp
  have hall : ∀ x ∈ c :: r, x.toNat < 128 := by
    intro x hx
    rw [← hr] at hx
    have := mem_rep hx
    simp at this
    subst this
    exact ha
  have hp : ([40, 42] : List UInt8).isPrefixOf (c :: r) = false := by
    simp [List.isPrefixOf]
    intro e
    exact absurd e.symm h40
  have h1 := lexE_one hall (by rw [← hr, hlen]; omega) hb hp
  rw [hn r, ← hr, nameM_rep hc k hm] at h1
  by_cases h : 64 < m
  · rw [if_pos h] at h1
    rw [h1.1 _ rfl, eq_iff_iff]
    exact ⟨fun q => absurd q (by decide), fun q => by omega⟩
  · rw [if_neg h] at h1
    rw [h1.2 _ rfl (by rw [hlen]), eq_iff_iff]
    exact ⟨fun _ => by omega, fun _ => rfl⟩
theorem long3 (m : Nat) (hm : 10 ≤ m) (hm2 : m ≤ 60000) : ((lexE ([39] ++ rep [97] m)).1 = 0) = (m ≤ 64) := by
  obtain ⟨r, hr, hrl⟩ := rep_head 97 (show 1 ≤ m by omega)
  have hlen : (rep [97] m).length = m := by rw [rep_len]; simp
  have hall : ∀ x ∈ (39 : UInt8) :: rep [97] m, x.toNat < 128 := by
    intro x hx
    rcases List.mem_cons.1 hx with rfl | hx
    · decide
    · have := mem_rep hx
      simp at this
      subst this
      decide
  have h1 := lexE_one hall (by rw [List.length_cons, hlen]; omega) (by decide) (by simp [List.isPrefixOf])
  have hs : headSmall (rep [97] m) = true := by rw [hr]; show smallB ((97 : UInt8).toNat : Int) = true; decide
  rw [nextM_var, varM, if_pos hs, nameM_rep (by decide) 5 hm] at h1
  show ((lexE (39 :: rep [97] m)).1 = 0) = _
  by_cases h : 64 < m
  · rw [if_pos h] at h1
    rw [h1.1 _ rfl, eq_iff_iff]
    exact ⟨fun q => absurd q (by decide), fun q => by omega⟩
  · rw [if_neg h] at h1
    rw [h1.2 _ rfl (by simp only [List.length_cons, hlen]), eq_iff_iff]
    exact ⟨fun _ => by omega, fun _ => rfl⟩
theorem long4 (m : Nat) (hm2 : m ≤ 10000) : ((lexE (([34] ++ rep [92, 48, 48, 49] m) ++ [34])).1 = 0) = (m ≤ 4096) := by
  have hlen : (rep [92, 48, 48, 49] m).length = m * 4 := by rw [rep_len]; simp
  have hall : ∀ x ∈ (34 : UInt8) :: (rep [92, 48, 48, 49] m ++ [34]), x.toNat < 128 := by
    intro x hx
    rcases List.mem_cons.1 hx with rfl | hx
    · decide
    · rw [List.mem_append] at hx
      rcases hx with hx | hx
      · have := mem_rep hx
        simp at this
        rcases this with rfl | rfl | rfl <;> decide
      · simp at hx; subst hx; decide
  have h1 := lexE_one hall (by rw [List.length_cons, List.length_append, hlen, List.length_singleton]; omega) (by decide) (by simp [List.isPrefixOf])
  have hnx : nextM (34 :: (rep [92, 48, 48, 49] m ++ [34])) = strM (rep [92, 48, 48, 49] m ++ [34]) := by
    simp only [nextM]
    rw [if_neg (by decide)]
    simp
  have hl1 : (rep [1] m).length = m := by rw [rep_len]; simp
  rw [hnx, strM, textM_rep] at h1
  simp only [hl1] at h1
  show ((lexE (34 :: (rep [92, 48, 48, 49] m ++ [34]))).1 = 0) = _
  by_cases h : 4096 < m
  · rw [if_pos h] at h1
    rw [h1.1 _ rfl, eq_iff_iff]
    exact ⟨fun q => absurd q (by decide), fun q => by omega⟩
  · rw [if_neg h] at h1
    rw [h1.2 _ rfl (by simp only [List.length_cons, List.length_append, hlen, List.length_nil]; omega), eq_iff_iff]
    exact ⟨fun _ => by omega, fun _ => rfl⟩
end Go.Proofs.YthcgccnbhdociaaDoor

namespace Go.Proofs.YthcgccnbhdociaaDoor
open Go Am
set_option linter.unusedSectionVars false
set_option linter.unusedSimpArgs false
set_option linter.unusedVariables false

def c5t : RC := match c5 with
  | .seq _ (.seq _ (.seq _ (.seq _ t))) => t
  | c => c
theorem c5_split : c5 = .seq (match c5 with | .seq x _ => x | c => c) (.seq (match c5 with | .seq _ (.seq x _) => x | c => c) (.seq (match c5 with | .seq _ (.seq _ (.seq x _)) => x | c => c) (.seq (match c5 with | .seq _ (.seq _ (.seq _ (.seq x _))) => x | c => c) c5t))) := rfl

theorem long_tail (s : List UInt8) (more : Int) (h : Heap) (hm : ((lexE s).1 = 0) = (more ≤ 0)) (r : RF) (r5 : r 5 = .str s) (r0 : r 0 = .int .i64 more) (Q : Ex → RF → Heap → Prop) (hQ : ∀ r' h', r' 4 = .bool true → Q .ret r' h') :
    wpK Tryd.prog [.c c5t] .normal r h Q := by
  unfold c5t c5
  simp +contextual only [r5, ↓wA, wB, wZ, repeatV, RX.evs, spl, over, ones, Ex.ends, evR, oneOf, top, ↓reduceIte, Nat.reduceEqDiff, Nat.reduceLeDiff, Nat.reduceAdd, Nat.reduceSub, Nat.reduceMul, reduceCtorEq, Int.reduceEq, Int.reduceLT, Int.reduceLE, Int.reduceNeg, Int.reduceAdd, Int.reduceSub]
  refine callK_intro (lex_ctr s _) ?_
  rintro x h1 hL1
  obtain ⟨hx1, v1, rfl, hS1⟩ := hL1.view
  have hlen := lexE_len s
  have hN1 : Ext h1 ((h1.new (.ofL [.int .i64 0, .int .i64 0] 0 false)).set (pa h1.next) (.ofL [.int .i64 (lexE s).1, .int .i64 (lexE s).2.1] 0 false)) := ((Ext.refl h1).new _).set (Nat.le_refl _) _
  have g1 : ((h1.new (.ofL [.int .i64 0, .int .i64 0] 0 false)).set (pa h1.next) (.ofL [.int .i64 (lexE s).1, .int .i64 (lexE s).2.1] 0 false)).get (pa h1.next) = .ofL [.int .i64 (lexE s).1, .int .i64 (lexE s).2.1] 0 false := by rw [get_set, if_pos rfl]
  have nx1 : ((h1.new (.ofL [.int .i64 0, .int .i64 0] 0 false)).set (pa h1.next) (.ofL [.int .i64 (lexE s).1, .int .i64 (lexE s).2.1] 0 false)).next = h1.next + 1 := rfl
  simp +contextual only [r5, ↓wA, wB, wZ, repeatV, RX.evs, spl, over, ones, Ex.ends, evR, oneOf, top, ↓reduceIte, Nat.reduceEqDiff, Nat.reduceLeDiff, Nat.reduceAdd, Nat.reduceSub, Nat.reduceMul, reduceCtorEq, Int.reduceEq, Int.reduceLT, Int.reduceLE, Int.reduceNeg, Int.reduceAdd, Int.reduceSub]
  generalize hH1 : (h1.new (.ofL [.int .i64 0, .int .i64 0] 0 false)).set (pa h1.next) (.ofL [.int .i64 (lexE s).1, .int .i64 (lexE s).2.1] 0 false) = H1 at *
  refine callK_intro (reflex_ctr s _) ?_
  rintro x h2 hL2
  obtain ⟨hx2, v2, rfl, hS2⟩ := hL2.view
  have nx2 : h1.next + 1 ≤ h2.next := by have := hx2.next; omega
  have g2 : h2.get (pa h1.next) = .ofL [.int .i64 (lexE s).1, .int .i64 (lexE s).2.1] 0 false := by rw [hx2.get _ (old_lt (by omega)), g1]
  have hN2 : Ext h2 ((h2.new (.ofL [.int .i64 0, .int .i64 0] 0 false)).set (pa h2.next) (.ofL [.int .i64 (lexE s).1, .int .i64 (lexE s).2.1] 0 false)) := ((Ext.refl h2).new _).set (Nat.le_refl _) _
  have k1 : ((h2.new (.ofL [.int .i64 0, .int .i64 0] 0 false)).set (pa h2.next) (.ofL [.int .i64 (lexE s).1, .int .i64 (lexE s).2.1] 0 false)).get (pa h1.next) = .ofL [.int .i64 (lexE s).1, .int .i64 (lexE s).2.1] 0 false := by rw [hN2.get _ (old_lt (by omega)), g2]
  have k2 : ((h2.new (.ofL [.int .i64 0, .int .i64 0] 0 false)).set (pa h2.next) (.ofL [.int .i64 (lexE s).1, .int .i64 (lexE s).2.1] 0 false)).get (pa h2.next) = .ofL [.int .i64 (lexE s).1, .int .i64 (lexE s).2.1] 0 false := by rw [get_set, if_pos rfl]
  simp +contextual only [r5, ↓wA, wB, wZ, repeatV, RX.evs, spl, over, ones, Ex.ends, evR, oneOf, top, ↓reduceIte, Nat.reduceEqDiff, Nat.reduceLeDiff, Nat.reduceAdd, Nat.reduceSub, Nat.reduceMul, reduceCtorEq, Int.reduceEq, Int.reduceLT, Int.reduceLE, Int.reduceNeg, Int.reduceAdd, Int.reduceSub]
  generalize hH2 : (h2.new (.ofL [.int .i64 0, .int .i64 0] 0 false)).set (pa h2.next) (.ofL [.int .i64 (lexE s).1, .int .i64 (lexE s).2.1] 0 false) = H2 at *
  have hSa : SlO h.next H2 4 v1 (lexE s).2.2.length (wdsV (lexE s).2.2) := ((hS1.ext hN1).ext hx2).ext hN2
  have hSb : SlO H1.next H2 4 v2 (lexE s).2.2.length (wdsV (lexE s).2.2) := hS2.ext hN2
  refine callK_pure (same_pure v1 v2 _ _ H2 hSa.v hSb.v (by omega)) ?_
  have ht : decide ((lexE s).2.2 = (lexE s).2.2) = true := decide_eq_true rfl
  have hda : decide ((lexE s).1 = (lexE s).1) = true := decide_eq_true rfl
  have hdb : decide ((lexE s).2.1 = (lexE s).2.1) = true := decide_eq_true rfl
  have hb : ((!decide ((lexE s).1 = 0)) == decide (0 < more)) = true := by
    by_cases h0 : (lexE s).1 = 0
    · have hq : more ≤ 0 := by rw [← hm]; exact h0
      rw [decide_eq_true h0, decide_eq_false (by omega)]
      rfl
    · have hq : ¬ more ≤ 0 := by rw [← hm]; exact h0
      rw [decide_eq_false h0, decide_eq_true (by omega)]
      rfl
  simp +contextual only [r0, ht, k1, k2, eql26, hda, hdb, hb, ↓wA, wB, wZ, repeatV, RX.evs, spl, over, ones, Ex.ends, evR, oneOf, top, ↓reduceIte, Nat.reduceEqDiff, Nat.reduceLeDiff, Nat.reduceAdd, Nat.reduceSub, Nat.reduceMul, reduceCtorEq, Int.reduceEq, Int.reduceLT, Int.reduceLE, Int.reduceNeg, Int.reduceAdd, Int.reduceSub]
  refine callK_intro (awake_ctr _) ?_
  rintro x h5 ⟨rfl, hx5⟩
  simp +contextual only [↓wA, wB, wZ, repeatV, RX.evs, spl, over, ones, Ex.ends, evR, oneOf, top, ↓reduceIte, Nat.reduceEqDiff, Nat.reduceLeDiff, Nat.reduceAdd, Nat.reduceSub, Nat.reduceMul, reduceCtorEq, Int.reduceEq, Int.reduceLT, Int.reduceLE, Int.reduceNeg, Int.reduceAdd, Int.reduceSub]
  exact hQ _ _ (by simp only [↓wA, wB, wZ, repeatV, RX.evs, spl, over, ones, Ex.ends, evR, oneOf, top, ↓reduceIte, Nat.reduceEqDiff, Nat.reduceLeDiff, Nat.reduceAdd, Nat.reduceSub, Nat.reduceMul, reduceCtorEq, Int.reduceEq, Int.reduceLT, Int.reduceLE, Int.reduceNeg, Int.reduceAdd, Int.reduceSub])

theorem lexLong (a b : Int) (h : Heap) : Ctr Tryd.prog 5 [.int .i64 a, .int .i64 b] h fun y _ => y = .bool true := by
  refine c5_ctr rfl (wpK_of ?_)
  rw [c5_split]
  unfold c5
  simp +contextual only [↓wA, wB, wZ, repeatV, RX.evs, spl, over, ones, Ex.ends, evR, oneOf, top, ↓reduceIte, Nat.reduceEqDiff, Nat.reduceLeDiff, Nat.reduceAdd, Nat.reduceSub, Nat.reduceMul, reduceCtorEq, Int.reduceEq, Int.reduceLT, Int.reduceLE, Int.reduceNeg, Int.reduceAdd, Int.reduceSub]
  refine callK_intro (pick_ctr a _) ?_
  rintro x h1 ⟨rfl, k1, hk1, rfl⟩
  have w1 : IntKind.i64.wrap ((k1 : Int) - 2) = (k1 : Int) - 2 := wrap_i64 (by omega) (by omega)
  simp +contextual only [w1, ↓wA, wB, wZ, repeatV, RX.evs, spl, over, ones, Ex.ends, evR, oneOf, top, ↓reduceIte, Nat.reduceEqDiff, Nat.reduceLeDiff, Nat.reduceAdd, Nat.reduceSub, Nat.reduceMul, reduceCtorEq, Int.reduceEq, Int.reduceLT, Int.reduceLE, Int.reduceNeg, Int.reduceAdd, Int.reduceSub]
  refine callK_intro (pick_ctr b _) ?_
  rintro x h2 ⟨rfl, k2, hk2, rfl⟩
  have w2 : IntKind.i64.wrap (65536 + ((k1 : Int) - 2)) = 65536 + ((k1 : Int) - 2) := wrap_i64 (by omega) (by omega)
  have w3 : IntKind.i64.wrap (65536 + ((k1 : Int) - 2) - 1) = ((65533 + k1 : Nat) : Int) := by rw [wrap_i64 (by omega) (by omega)]; omega
  have w4 : IntKind.i64.wrap (64 + ((k1 : Int) - 2)) = ((62 + k1 : Nat) : Int) := by rw [wrap_i64 (by omega) (by omega)]; omega
  have w5 : IntKind.i64.wrap (4096 + ((k1 : Int) - 2)) = ((4094 + k1 : Nat) : Int) := by rw [wrap_i64 (by omega) (by omega)]; omega
  have d : ∀ n : Nat, n < 5 → ∀ m : Nat, m < 5 → (((n : Nat) : Int) = (m : Int)) = (n = m) := fun n _ m _ => propext ⟨fun q => by omega, fun q => by omega⟩
  have hk : k2 = 0 ∨ k2 = 1 ∨ k2 = 2 ∨ k2 = 3 ∨ k2 = 4 := by omega
  rcases hk with rfl | rfl | rfl | rfl | rfl
  · simp +contextual only [w1, w2, w3, Int.cast_ofNat_Int, ↓wA, wB, wZ, repeatV, RX.evs, spl, over, ones, Ex.ends, evR, oneOf, top, ↓reduceIte, Nat.reduceEqDiff, Nat.reduceLeDiff, Nat.reduceAdd, Nat.reduceSub, Nat.reduceMul, reduceCtorEq, Int.reduceEq, Int.reduceLT, Int.reduceLE, Int.reduceNeg, Int.reduceAdd, Int.reduceSub]
    refine callK_intro (repeat_ctr [32] (65533 + k1) _ (by simp; omega) (by omega)) ?_
    rintro x h3 ⟨rfl, hx3⟩
    have hl : ((rep [32] (65533 + k1)).length + 1 ≤ top) = True := eq_true (by rw [rep_len]; unfold top; simp; omega)
    simp only [top] at hl
    simp +contextual only [hl, ↓wA, wB, wZ, repeatV, RX.evs, spl, over, ones, Ex.ends, evR, oneOf, top, ↓reduceIte, Nat.reduceEqDiff, Nat.reduceLeDiff, Nat.reduceAdd, Nat.reduceSub, Nat.reduceMul, reduceCtorEq, Int.reduceEq, Int.reduceLT, Int.reduceLE, Int.reduceNeg, Int.reduceAdd, Int.reduceSub]
    refine long_tail (rep [32] (65533 + k1) ++ [97]) ((k1 : Int) - 2) h3 ?_ _ (by simp only [↓wA, wB, wZ, repeatV, RX.evs, spl, over, ones, Ex.ends, evR, oneOf, top, ↓reduceIte, Nat.reduceEqDiff, Nat.reduceLeDiff, Nat.reduceAdd, Nat.reduceSub, Nat.reduceMul, reduceCtorEq, Int.reduceEq, Int.reduceLT, Int.reduceLE, Int.reduceNeg, Int.reduceAdd, Int.reduceSub]) (by simp only [↓wA, wB, wZ, repeatV, RX.evs, spl, over, ones, Ex.ends, evR, oneOf, top, ↓reduceIte, Nat.reduceEqDiff, Nat.reduceLeDiff, Nat.reduceAdd, Nat.reduceSub, Nat.reduceMul, reduceCtorEq, Int.reduceEq, Int.reduceLT, Int.reduceLE, Int.reduceNeg, Int.reduceAdd, Int.reduceSub]) _ (fun r' h' hr => by simp only [hr, ↓wA, wB, wZ, repeatV, RX.evs, spl, over, ones, Ex.ends, evR, oneOf, top, ↓reduceIte, Nat.reduceEqDiff, Nat.reduceLeDiff, Nat.reduceAdd, Nat.reduceSub, Nat.reduceMul, reduceCtorEq, Int.reduceEq, Int.reduceLT, Int.reduceLE, Int.reduceNeg, Int.reduceAdd, Int.reduceSub])
    rw [long0, eq_iff_iff]
    omega
  · simp +contextual only [w1, w4, Int.cast_ofNat_Int, ↓wA, wB, wZ, repeatV, RX.evs, spl, over, ones, Ex.ends, evR, oneOf, top, ↓reduceIte, Nat.reduceEqDiff, Nat.reduceLeDiff, Nat.reduceAdd, Nat.reduceSub, Nat.reduceMul, reduceCtorEq, Int.reduceEq, Int.reduceLT, Int.reduceLE, Int.reduceNeg, Int.reduceAdd, Int.reduceSub]
    refine callK_intro (repeat_ctr [97] (62 + k1) _ (by simp; omega) (by omega)) ?_
    rintro x h3 ⟨rfl, hx3⟩
    simp +contextual only [↓wA, wB, wZ, repeatV, RX.evs, spl, over, ones, Ex.ends, evR, oneOf, top, ↓reduceIte, Nat.reduceEqDiff, Nat.reduceLeDiff, Nat.reduceAdd, Nat.reduceSub, Nat.reduceMul, reduceCtorEq, Int.reduceEq, Int.reduceLT, Int.reduceLE, Int.reduceNeg, Int.reduceAdd, Int.reduceSub]
    refine long_tail (rep [97] (62 + k1)) ((k1 : Int) - 2) h3 ?_ _ (by simp only [↓wA, wB, wZ, repeatV, RX.evs, spl, over, ones, Ex.ends, evR, oneOf, top, ↓reduceIte, Nat.reduceEqDiff, Nat.reduceLeDiff, Nat.reduceAdd, Nat.reduceSub, Nat.reduceMul, reduceCtorEq, Int.reduceEq, Int.reduceLT, Int.reduceLE, Int.reduceNeg, Int.reduceAdd, Int.reduceSub]) (by simp only [↓wA, wB, wZ, repeatV, RX.evs, spl, over, ones, Ex.ends, evR, oneOf, top, ↓reduceIte, Nat.reduceEqDiff, Nat.reduceLeDiff, Nat.reduceAdd, Nat.reduceSub, Nat.reduceMul, reduceCtorEq, Int.reduceEq, Int.reduceLT, Int.reduceLE, Int.reduceNeg, Int.reduceAdd, Int.reduceSub]) _ (fun r' h' hr => by simp only [hr, ↓wA, wB, wZ, repeatV, RX.evs, spl, over, ones, Ex.ends, evR, oneOf, top, ↓reduceIte, Nat.reduceEqDiff, Nat.reduceLeDiff, Nat.reduceAdd, Nat.reduceSub, Nat.reduceMul, reduceCtorEq, Int.reduceEq, Int.reduceLT, Int.reduceLE, Int.reduceNeg, Int.reduceAdd, Int.reduceSub])
    rw [longname 97 3 (by decide) (by decide) (by decide) (by decide) (fun r => by simp only [nextM]; rw [if_neg (by decide), if_neg (by decide), if_pos (by decide)]) _ (by omega) (by omega), eq_iff_iff]
    omega
  · simp +contextual only [w1, w4, Int.cast_ofNat_Int, ↓wA, wB, wZ, repeatV, RX.evs, spl, over, ones, Ex.ends, evR, oneOf, top, ↓reduceIte, Nat.reduceEqDiff, Nat.reduceLeDiff, Nat.reduceAdd, Nat.reduceSub, Nat.reduceMul, reduceCtorEq, Int.reduceEq, Int.reduceLT, Int.reduceLE, Int.reduceNeg, Int.reduceAdd, Int.reduceSub]
    refine callK_intro (repeat_ctr [65] (62 + k1) _ (by simp; omega) (by omega)) ?_
    rintro x h3 ⟨rfl, hx3⟩
    simp +contextual only [↓wA, wB, wZ, repeatV, RX.evs, spl, over, ones, Ex.ends, evR, oneOf, top, ↓reduceIte, Nat.reduceEqDiff, Nat.reduceLeDiff, Nat.reduceAdd, Nat.reduceSub, Nat.reduceMul, reduceCtorEq, Int.reduceEq, Int.reduceLT, Int.reduceLE, Int.reduceNeg, Int.reduceAdd, Int.reduceSub]
    refine long_tail (rep [65] (62 + k1)) ((k1 : Int) - 2) h3 ?_ _ (by simp only [↓wA, wB, wZ, repeatV, RX.evs, spl, over, ones, Ex.ends, evR, oneOf, top, ↓reduceIte, Nat.reduceEqDiff, Nat.reduceLeDiff, Nat.reduceAdd, Nat.reduceSub, Nat.reduceMul, reduceCtorEq, Int.reduceEq, Int.reduceLT, Int.reduceLE, Int.reduceNeg, Int.reduceAdd, Int.reduceSub]) (by simp only [↓wA, wB, wZ, repeatV, RX.evs, spl, over, ones, Ex.ends, evR, oneOf, top, ↓reduceIte, Nat.reduceEqDiff, Nat.reduceLeDiff, Nat.reduceAdd, Nat.reduceSub, Nat.reduceMul, reduceCtorEq, Int.reduceEq, Int.reduceLT, Int.reduceLE, Int.reduceNeg, Int.reduceAdd, Int.reduceSub]) _ (fun r' h' hr => by simp only [hr, ↓wA, wB, wZ, repeatV, RX.evs, spl, over, ones, Ex.ends, evR, oneOf, top, ↓reduceIte, Nat.reduceEqDiff, Nat.reduceLeDiff, Nat.reduceAdd, Nat.reduceSub, Nat.reduceMul, reduceCtorEq, Int.reduceEq, Int.reduceLT, Int.reduceLE, Int.reduceNeg, Int.reduceAdd, Int.reduceSub])
    rw [longname 65 4 (by decide) (by decide) (by decide) (by decide) (fun r => by simp only [nextM]; rw [if_neg (by decide), if_neg (by decide), if_neg (by decide), if_pos (by decide)]) _ (by omega) (by omega), eq_iff_iff]
    omega
  · simp +contextual only [w1, w4, Int.cast_ofNat_Int, ↓wA, wB, wZ, repeatV, RX.evs, spl, over, ones, Ex.ends, evR, oneOf, top, ↓reduceIte, Nat.reduceEqDiff, Nat.reduceLeDiff, Nat.reduceAdd, Nat.reduceSub, Nat.reduceMul, reduceCtorEq, Int.reduceEq, Int.reduceLT, Int.reduceLE, Int.reduceNeg, Int.reduceAdd, Int.reduceSub]
    refine callK_intro (repeat_ctr [97] (62 + k1) _ (by simp; omega) (by omega)) ?_
    rintro x h3 ⟨rfl, hx3⟩
    have hl : (1 + (rep [97] (62 + k1)).length ≤ top) = True := eq_true (by rw [rep_len]; unfold top; simp; omega)
    simp only [top] at hl
    simp +contextual only [hl, ↓wA, wB, wZ, repeatV, RX.evs, spl, over, ones, Ex.ends, evR, oneOf, top, ↓reduceIte, Nat.reduceEqDiff, Nat.reduceLeDiff, Nat.reduceAdd, Nat.reduceSub, Nat.reduceMul, reduceCtorEq, Int.reduceEq, Int.reduceLT, Int.reduceLE, Int.reduceNeg, Int.reduceAdd, Int.reduceSub]
    refine long_tail (39 :: rep [97] (62 + k1)) ((k1 : Int) - 2) h3 ?_ _ (by simp only [↓wA, wB, wZ, repeatV, RX.evs, spl, over, ones, Ex.ends, evR, oneOf, top, ↓reduceIte, Nat.reduceEqDiff, Nat.reduceLeDiff, Nat.reduceAdd, Nat.reduceSub, Nat.reduceMul, reduceCtorEq, Int.reduceEq, Int.reduceLT, Int.reduceLE, Int.reduceNeg, Int.reduceAdd, Int.reduceSub]) (by simp only [↓wA, wB, wZ, repeatV, RX.evs, spl, over, ones, Ex.ends, evR, oneOf, top, ↓reduceIte, Nat.reduceEqDiff, Nat.reduceLeDiff, Nat.reduceAdd, Nat.reduceSub, Nat.reduceMul, reduceCtorEq, Int.reduceEq, Int.reduceLT, Int.reduceLE, Int.reduceNeg, Int.reduceAdd, Int.reduceSub]) _ (fun r' h' hr => by simp only [hr, ↓wA, wB, wZ, repeatV, RX.evs, spl, over, ones, Ex.ends, evR, oneOf, top, ↓reduceIte, Nat.reduceEqDiff, Nat.reduceLeDiff, Nat.reduceAdd, Nat.reduceSub, Nat.reduceMul, reduceCtorEq, Int.reduceEq, Int.reduceLT, Int.reduceLE, Int.reduceNeg, Int.reduceAdd, Int.reduceSub])
    have := long3 (62 + k1) (by omega) (by omega)
    rw [show ([39] ++ rep [97] (62 + k1) : List UInt8) = 39 :: rep [97] (62 + k1) from rfl] at this
    rw [this, eq_iff_iff]
    omega
  · simp +contextual only [w1, w5, Int.cast_ofNat_Int, ↓wA, wB, wZ, repeatV, RX.evs, spl, over, ones, Ex.ends, evR, oneOf, top, ↓reduceIte, Nat.reduceEqDiff, Nat.reduceLeDiff, Nat.reduceAdd, Nat.reduceSub, Nat.reduceMul, reduceCtorEq, Int.reduceEq, Int.reduceLT, Int.reduceLE, Int.reduceNeg, Int.reduceAdd, Int.reduceSub]
    refine callK_intro (repeat_ctr [92, 48, 48, 49] (4094 + k1) _ (by simp; omega) (by omega)) ?_
    rintro x h3 ⟨rfl, hx3⟩
    have hl : (1 + (rep [92, 48, 48, 49] (4094 + k1)).length ≤ top) = True := eq_true (by rw [rep_len]; unfold top; simp; omega)
    have hl2 : ((rep [92, 48, 48, 49] (4094 + k1)).length + 1 + 1 ≤ top) = True := eq_true (by rw [rep_len]; unfold top; simp; omega)
    have hl3 : ((rep [92, 48, 48, 49] (4094 + k1)).length + 2 ≤ top) = True := eq_true (by rw [rep_len]; unfold top; simp; omega)
    simp only [top] at hl hl2 hl3
    simp +contextual only [hl, hl2, hl3, ↓wA, wB, wZ, repeatV, RX.evs, spl, over, ones, Ex.ends, evR, oneOf, top, ↓reduceIte, Nat.reduceEqDiff, Nat.reduceLeDiff, Nat.reduceAdd, Nat.reduceSub, Nat.reduceMul, reduceCtorEq, Int.reduceEq, Int.reduceLT, Int.reduceLE, Int.reduceNeg, Int.reduceAdd, Int.reduceSub]
    refine long_tail (34 :: (rep [92, 48, 48, 49] (4094 + k1) ++ [34])) ((k1 : Int) - 2) h3 ?_ _ (by simp only [↓wA, wB, wZ, repeatV, RX.evs, spl, over, ones, Ex.ends, evR, oneOf, top, ↓reduceIte, Nat.reduceEqDiff, Nat.reduceLeDiff, Nat.reduceAdd, Nat.reduceSub, Nat.reduceMul, reduceCtorEq, Int.reduceEq, Int.reduceLT, Int.reduceLE, Int.reduceNeg, Int.reduceAdd, Int.reduceSub]) (by simp only [↓wA, wB, wZ, repeatV, RX.evs, spl, over, ones, Ex.ends, evR, oneOf, top, ↓reduceIte, Nat.reduceEqDiff, Nat.reduceLeDiff, Nat.reduceAdd, Nat.reduceSub, Nat.reduceMul, reduceCtorEq, Int.reduceEq, Int.reduceLT, Int.reduceLE, Int.reduceNeg, Int.reduceAdd, Int.reduceSub]) _ (fun r' h' hr => by simp only [hr, ↓wA, wB, wZ, repeatV, RX.evs, spl, over, ones, Ex.ends, evR, oneOf, top, ↓reduceIte, Nat.reduceEqDiff, Nat.reduceLeDiff, Nat.reduceAdd, Nat.reduceSub, Nat.reduceMul, reduceCtorEq, Int.reduceEq, Int.reduceLT, Int.reduceLE, Int.reduceNeg, Int.reduceAdd, Int.reduceSub])
    have := long4 (4094 + k1) (by omega)
    rw [show (([34] ++ rep [92, 48, 48, 49] (4094 + k1)) ++ [34] : List UInt8) = 34 :: (rep [92, 48, 48, 49] (4094 + k1) ++ [34]) from rfl] at this
    rw [this, eq_iff_iff]
    omega
end Go.Proofs.YthcgccnbhdociaaDoor
