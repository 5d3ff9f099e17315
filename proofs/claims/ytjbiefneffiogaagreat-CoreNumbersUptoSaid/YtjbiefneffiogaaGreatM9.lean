/- The chapter's functions, walked by the abstract machine: plain lemmas, no condition. -/
import Derived.Test.YtjbiefneffiogaaGreatM5
import Derived.Test.YtjbiefneffiogaaGreatM7
import Derived.Test.YtjbiefneffiogaaGreatM8
set_option linter.unusedSectionVars false
set_option linter.unusedSimpArgs false
set_option linter.unusedVariables false

namespace Go.Proofs.YtjbiefneffiogaaGreat
open Go Am
theorem pure_calls {f : FuncId} {args : List V} {h : Heap} {v : V} (c : Ctr Tryz.prog f args h fun x h' => x = v ∧ h' = h) : CallsV Tryz.prog f args h v h := by
  obtain ⟨x, h', q, rfl, rfl⟩ := c
  exact q
def At.enc (a : At) : List V := [.int .i64 a.k, .int .i64 a.n, .str a.s]
def atsV : List At → List V
  | [] => []
  | a :: l => a.enc ++ atsV l
theorem atsV_len : ∀ l : List At, (atsV l).length = l.length * 3
  | [] => rfl
  | a :: l => by rw [atsV, List.length_append, atsV_len l, List.length_cons]; simp only [At.enc, List.length_cons, List.length_nil]; omega
theorem atsV_at : ∀ (l : List At) (i : Nat) (hi : i < l.length), ((atsV l).drop (i * 3)).take 3 = l[i].enc
  | [], i, hi => by simp at hi
  | a :: l, 0, _ => by simp [atsV, At.enc]
  | a :: l, i + 1, hi => by
    rw [atsV, show (i + 1) * 3 = a.enc.length + i * 3 from by simp only [At.enc, List.length_cons, List.length_nil]; omega, List.drop_append, List.drop_eq_nil_of_le (by omega), List.nil_append, Nat.add_sub_cancel_left]
    exact atsV_at l i (by simpa using hi)
theorem intsV_len (l : List Int) : (intsV l).length = l.length := by simp [intsV]
inductive CoIn (h : Heap) : Co → List V → Prop
  | mk {k x n : Int} {s : List UInt8} {a : List At} {t : List Int} {l : List Co} {va vt vl : V} {us : List (List V)} (ha : SlV h 3 va a.length (atsV a)) (ht : SlV h 1 vt t.length (intsV t))
    (hr : roomV vl) (hl : SlV h 7 vl l.length us.flatten) (hu : us.length = l.length) (kids : ∀ (i : Nat) (c : Co) (u : List V), l[i]? = some c → us[i]? = some u → CoIn h c u) :
    CoIn h (.mk k x n s a t l) [.int .i64 k, .int .i64 x, .int .i64 n, .str s, va, vt, vl]
def CosIn (h : Heap) (l : List Co) (vl : V) : Prop := roomV vl ∧ ∃ us : List (List V), SlV h 7 vl l.length us.flatten ∧ us.length = l.length ∧ ∀ (i : Nat) (c : Co) (u : List V), l[i]? = some c → us[i]? = some u → CoIn h c u
theorem CoIn.ext {h h' : Heap} (e : Ext h h') {c : Co} {vs : List V} (H : CoIn h c vs) : CoIn h' c vs := by
  induction H with
  | mk ha ht hr hl hu kids ih => exact .mk (ha.ext e) (ht.ext e) hr (hl.ext e) hu ih
theorem CosIn.ext {h h' : Heap} (e : Ext h h') {l : List Co} {v : V} (H : CosIn h l v) : CosIn h' l v := by
  obtain ⟨hr, us, h1, h2, h3⟩ := H
  exact ⟨hr, us, h1.ext e, h2, fun i c u q1 q2 => (h3 i c u q1 q2).ext e⟩
theorem CoIn.len {h : Heap} {c : Co} {vs : List V} (H : CoIn h c vs) : vs.length = 7 := by cases H; rfl
theorem CoIn.open {h : Heap} {c : Co} {vs : List V} (H : CoIn h c vs) : ∃ va vt vl, vs = [.int .i64 c.k, .int .i64 c.x, .int .i64 c.n, .str c.s, va, vt, vl] ∧ SlV h 3 va c.a.length (atsV c.a) ∧ SlV h 1 vt c.t.length (intsV c.t) ∧ CosIn h c.l vl := by
  cases H with
  | mk ha ht hr hl hu kids => exact ⟨_, _, _, rfl, ha, ht, hr, _, hl, hu, kids⟩
theorem flat7 : ∀ (us : List (List V)) (i : Nat) (u : List V), (∀ u ∈ us, u.length = 7) → us[i]? = some u → (us.flatten.drop (i * 7)).take 7 = u
  | [], i, u, _, h => by simp at h
  | w :: us, 0, u, hl, h => by
    simp only [List.getElem?_cons_zero, Option.some.injEq] at h
    subst h
    rw [Nat.zero_mul, List.drop_zero, List.flatten_cons, List.take_left' (hl _ (by simp))]
  | w :: us, i + 1, u, hl, h => by
    rw [show (i + 1) * 7 = 7 + i * 7 from by omega, ← List.drop_drop, List.flatten_cons, List.drop_left' (hl _ (by simp))]
    exact flat7 us i u (fun u hu => hl u (by simp [hu])) (by simpa using h)
theorem flat7_len : ∀ (us : List (List V)), (∀ u ∈ us, u.length = 7) → us.flatten.length = us.length * 7
  | [], _ => rfl
  | w :: us, hl => by rw [List.flatten_cons, List.length_append, hl w (by simp), flat7_len us (fun u hu => hl u (by simp [hu])), List.length_cons]; omega
theorem CosIn.len {h : Heap} {l : List Co} {v : V} (H : CosIn h l v) : lenSl v = some (.int .i64 l.length) := by
  obtain ⟨_, us, h1, _⟩ := H
  exact h1.len
theorem CosIn.one {h : Heap} {l : List Co} {v : V} (H : CosIn h l v) : v.one = true ∧ v.cells = [v] ∧ v.good = true := by
  obtain ⟨_, us, h1, _⟩ := H
  exact h1.one
theorem CosIn.at {h : Heap} {l : List Co} {v : V} (H : CosIn h l v) {k : IntKind} {i : Nat} (hi : i < l.length) :
    ∃ b off u, iaV 7 v (.int k i) = some (.ptr b (off + i * 7)) ∧ CoIn h l[i] u ∧ ldnB 7 (h.get b) (off + i * 7) = some (.agg u) ∧ ∀ j, j < 7 → ld1B (h.get b) (off + i * 7 + j) = u[j]? := by
  obtain ⟨hr, us, h1, h2, h3⟩ := H
  have hl7 : ∀ u ∈ us, u.length = 7 := by
    intro u hu
    obtain ⟨j, hj⟩ := List.getElem?_of_mem hu
    have hjl : j < l.length := by rw [← h2]; exact (List.getElem?_eq_some_iff.1 hj).1
    exact (h3 j l[j] u (List.getElem?_eq_getElem hjl) hj).len
  have hiu : i < us.length := by omega
  have hu := List.getElem?_eq_getElem hiu
  obtain ⟨b, off, e1, e2⟩ := h1.ia (k := k) hi
  have hf := flat7 us i _ hl7 hu
  have hfl := flat7_len us hl7
  refine ⟨b, off, us[i], e1, h3 i _ _ (List.getElem?_eq_getElem hi) hu, ?_, fun j hj => ?_⟩
  · rw [e2.ldn (i := i * 7) (n := 7) (by omega), hf]
  · exact e2.cell hf (by omega) hj
theorem CosIn.atx {h : Heap} {l : List Co} {v : V} (H : CosIn h l v) {k : IntKind} {i : Nat} (hi : i < l.length) :
    ∃ b off u, iaV 7 v (.int k i) = some (.ptr b (off + i * 7)) ∧ CoIn h l[i] u ∧ ∀ h', Ext h h' → ldnB 7 (h'.get b) (off + i * 7) = some (.agg u) ∧ ∀ j, j < 7 → ld1B (h'.get b) (off + i * 7 + j) = u[j]? := by
  obtain ⟨hr, us, h1, h2, h3⟩ := H
  have hl7 : ∀ u ∈ us, u.length = 7 := by
    intro u hu
    obtain ⟨j, hj⟩ := List.getElem?_of_mem hu
    have hjl : j < l.length := by rw [← h2]; exact (List.getElem?_eq_some_iff.1 hj).1
    exact (h3 j l[j] u (List.getElem?_eq_getElem hjl) hj).len
  have hiu : i < us.length := by omega
  have hu := List.getElem?_eq_getElem hiu
  obtain ⟨b, off, e1, e2⟩ := h1.ia (k := k) hi
  have hf := flat7 us i _ hl7 hu
  have hfl := flat7_len us hl7
  refine ⟨b, off, us[i], e1, h3 i _ _ (List.getElem?_eq_getElem hi) hu, fun h' e => ⟨?_, fun j hj => ?_⟩⟩
  · rw [(e2.ext e).ldn (i := i * 7) (n := 7) (by omega), hf]
  · exact (e2.ext e).cell hf (by omega) hj
theorem CosIn.lens {h : Heap} {l : List Co} {us : List (List V)} (h2 : us.length = l.length) (h3 : ∀ (i : Nat) (c : Co) (u : List V), l[i]? = some c → us[i]? = some u → CoIn h c u) : ∀ u ∈ us, u.length = 7 := by
  intro u hu
  obtain ⟨j, hj⟩ := List.getElem?_of_mem hu
  have hjl : j < l.length := by rw [← h2]; exact (List.getElem?_eq_some_iff.1 hj).1
  exact (h3 j l[j] u (List.getElem?_eq_getElem hjl) hj).len
theorem CosIn.cut {h : Heap} {l : List Co} {v : V} (H : CosIn h l v) {k : IntKind} {m : Nat} (hm : m ≤ l.length) : ∃ v', sliceV 7 v none (some (.int k m)) none = some v' ∧ CosIn h (l.take m) v' := by
  obtain ⟨hr, us, h1, h2, h3⟩ := H
  have hl7 := CosIn.lens h2 h3
  obtain ⟨v', e1, e2, e3⟩ := h1.cut (k := k) (k' := k) (lo := 0) (hi := m) (Nat.zero_le _) hm none (some (.int k m)) (.inr ⟨rfl, rfl⟩) (.inl rfl) hr
  refine ⟨v', e1, ?_, us.take m, ?_, ?_, ?_⟩
  · intro b off l' c' e
    subst e
    cases v <;> simp only [sliceV] at e1
    case nilslice => unfold sliceNil at e1; simp only [bound_none] at e1; split at e1 <;> cases e1
    case slice b0 off0 len0 cap0 =>
      have hc := hr _ _ _ _ rfl
      have hlen : len0 = l.length := h1.2.1
      unfold sliceKnown at e1
      simp only [bound_some (k := k) (d := len0) (y := cap0) (m := m) (by omega), bound_none, Option.some.injEq, V.slice.injEq] at e1
      omega
    case gslice b0 off0 len0 idx0 =>
      unfold sliceGrown at e1
      have hlen : len0 = l.length := h1.2.1
      simp only [bound_some (k := k) (d := len0) (y := len0) (m := m) (by omega), bound_none] at e1
      cases hc : Nat.blt 0 len0 with
      | true => rw [hc] at e1; cases e1
      | false => rw [hc] at e1; cases e1
    case tslice b0 off0 off1 idx0 =>
      unfold sliceTail at e1
      simp only [bound_none] at e1
      split at e1 <;> cases e1
    all_goals cases e1
  · rw [List.length_take, Nat.min_eq_left hm]
    have hfl := flat7_len us hl7
    have : (us.take m).flatten = us.flatten.take (m * 7) := by
      have hs : us = us.take m ++ us.drop m := (List.take_append_drop m us).symm
      have ht7 : ∀ u ∈ us.take m, u.length = 7 := fun u hu => hl7 u (List.mem_of_mem_take hu)
      have htl := flat7_len (us.take m) ht7
      conv => rhs; rw [hs, List.flatten_append]
      rw [List.take_left' (by rw [htl, List.length_take, h2, Nat.min_eq_left hm])]
    rw [this]
    simpa using e2
  · rw [List.length_take, List.length_take, h2]
  · intro i c u q1 q2
    rw [List.getElem?_take] at q1 q2
    split at q1
    · rename_i hi
      rw [if_pos hi] at q2
      exact h3 i c u q1 q2
    · cases q1
theorem ats_at {h : Heap} {l : List At} {v : V} (H : SlV h 3 v l.length (atsV l)) {k : IntKind} {i : Nat} (hi : i < l.length) :
    ∃ b off, iaV 3 v (.int k i) = some (.ptr b (off + i * 3)) ∧ ldnB 3 (h.get b) (off + i * 3) = some (.agg l[i].enc) ∧ ∀ j, j < 3 → ld1B (h.get b) (off + i * 3 + j) = (l[i].enc)[j]? := by
  obtain ⟨b, off, e1, e2⟩ := H.ia (k := k) hi
  refine ⟨b, off, e1, ?_, fun j hj => e2.cell (atsV_at l i hi) (by rw [atsV_len]; omega) hj⟩
  rw [e2.ldn (i := i * 3) (n := 3) (by rw [atsV_len]; omega), atsV_at l i hi]
theorem ints_at {h : Heap} {l : List Int} {v : V} (H : SlV h 1 v l.length (intsV l)) {k : IntKind} {i : Nat} (hi : i < l.length) :
    ∃ b off, iaV 1 v (.int k i) = some (.ptr b (off + i * 1)) ∧ ld1B (h.get b) (off + i * 1) = some (.int .i64 l[i]) := by
  obtain ⟨b, off, e1, e2⟩ := H.ia (k := k) hi
  refine ⟨b, off, e1, ?_⟩
  rw [Nat.mul_one, e2.ld1 (by rw [intsV_len]; exact hi)]
  simp [intsV]
theorem iaa_eq (n s : Nat) (b : Pa) (o : Nat) (k : IntKind) (i : Int) : (indexArr n s).run (.ptr b o) (.int k i) = if 0 ≤ i ∧ i < (n : Int) then some (.ptr b (o + i.toNat * s)) else none := by
  simp only [indexArr, V.onInt, V.onPtr, inRange, leB_dec]
  by_cases h1 : 0 ≤ i <;> by_cases h2 : i < (n : Int)
  · have : ¬ (n : Int) ≤ i := by omega
    simp [h1, h2, this]
  · have : (n : Int) ≤ i := by omega
    simp [h1, h2, this]
  · simp [h1]
  · simp [h1]
theorem askg_look {P : Program} {d : Option Nat} {k : KK} {z : V} {ok : Bool} {x i : RX} {j : Nat} {want : Bool} {rs : List Nat} {e : EntF} {H : Heap} : askK P ⟨d, .look k z ok x i, some (j, want), rs⟩ e H =
    (isGate (e.r.trim rs j) ∧ Imp (took (e.r.trim rs j) want) ((lookupV k.eq z ok H (x.ev (e.r.trim rs)) (i.ev (e.r.trim rs))).isSome = true) ∧ V.opt (took (e.r.trim rs j) want) ((lookupV k.eq z ok H (x.ev (e.r.trim rs)) (i.ev (e.r.trim rs))).getD .bad) = e.v) := ask_gpure rfl
theorem w_inc {i n : Nat} (h : i < n) (hn : n ≤ 4611686018427387904) : IntKind.i64.wrap ((i : Int) + 1) = ((i + 1 : Nat) : Int) := by
  rw [wrap_i64 (by omega) (by omega)]
  rfl
end Go.Proofs.YtjbiefneffiogaaGreat

namespace Go.Proofs.YtjbiefneffiogaaGreat
open Go Am
theorem variable_pure (n : Int) (h : Heap) : CallsV Tryz.prog 120 [.int .i64 n] h (.bool (varB n)) h := by
  refine pure_calls (c120_ctr rfl (wpK_of ?_))
  unfold c120
  simp +contextual only [↓wA, wC, Ex.ends, evR, oneOf, top, ↓reduceIte, Nat.reduceEqDiff, Nat.reduceLeDiff, Nat.reduceAdd, Nat.reduceSub, Nat.reduceMul, reduceCtorEq, Int.reduceEq, Int.reduceLT, Int.reduceLE, Int.reduceNeg]
  rfl
theorem within_ctr (n a b : Int) (h : Heap) : Ctr Tryz.prog 121 [.int .i64 n, .agg [.int .i64 a, .int .i64 b]] h fun x h' => x = .bool (withinI n a b) ∧ Ext h h' := by
  refine c121_ctr rfl (wpK_of ?_)
  unfold c121
  have t0 : ((0 : Int) < ((2 : Nat) : Int)) = True := eq_true (by decide)
  have t1 : ((1 : Int) < ((2 : Nat) : Int)) = True := eq_true (by decide)
  simp +contextual only [iaa_eq, t0, t1, Int.toNat_zero, Int.toNat_one, Nat.zero_mul, Nat.add_zero, ↓wA, wC, Ex.ends, evR, oneOf, top, ↓reduceIte, Nat.reduceEqDiff, Nat.reduceLeDiff, Nat.reduceAdd, Nat.reduceSub, Nat.reduceMul, reduceCtorEq, Int.reduceEq, Int.reduceLT, Int.reduceLE, Int.reduceNeg]
  exact ⟨rfl, (Ext.refl h).new _⟩
theorem atom_ctr (a : At) (h : Heap) : Ctr Tryz.prog 126 [.agg a.enc] h fun x h' => x = .bool (atB a) ∧ Ext h h' := by
  obtain ⟨k, n, s⟩ := a
  refine c126_ctr rfl (wpK_of ?_)
  unfold c126
  have hx : Ext h (h.new (.ofL (At.enc ⟨k, n, s⟩) 0 false)) := (Ext.refl h).new _
  have he : At.enc ⟨k, n, s⟩ = [.int .i64 k, .int .i64 n, .str s] := rfl
  rw [he] at hx ⊢
  by_cases h1 : k = 1
  · subst h1
    simp +contextual only [↓wA, wC, Ex.ends, evR, oneOf, top, ↓reduceIte, Nat.reduceEqDiff, Nat.reduceLeDiff, Nat.reduceAdd, Nat.reduceSub, Nat.reduceMul, reduceCtorEq, Int.reduceEq, Int.reduceLT, Int.reduceLE, Int.reduceNeg]
    refine ⟨?_, hx⟩
    simp [atB, varB]
  by_cases h2 : k = 2
  · subst h2
    simp +contextual only [↓wA, wC, Ex.ends, evR, oneOf, top, ↓reduceIte, Nat.reduceEqDiff, Nat.reduceLeDiff, Nat.reduceAdd, Nat.reduceSub, Nat.reduceMul, reduceCtorEq, Int.reduceEq, Int.reduceLT, Int.reduceLE, Int.reduceNeg]
    refine ⟨?_, hx⟩
    simp [atB, numB]
  by_cases h3 : k = 3
  · subst h3
    simp +contextual only [↓wA, wC, Ex.ends, evR, oneOf, top, ↓reduceIte, Nat.reduceEqDiff, Nat.reduceLeDiff, Nat.reduceAdd, Nat.reduceSub, Nat.reduceMul, reduceCtorEq, Int.reduceEq, Int.reduceLT, Int.reduceLE, Int.reduceNeg]
    refine ⟨?_, hx⟩
    simp [atB]
    congr 1
    rw [decide_eq_decide]
    omega
  · have h1' := eq_false h1
    have h2' := eq_false h2
    have h3' := eq_false h3
    simp +contextual only [h1', h2', h3', ↓wA, wC, Ex.ends, evR, oneOf, top, ↓reduceIte, Nat.reduceEqDiff, Nat.reduceLeDiff, Nat.reduceAdd, Nat.reduceSub, Nat.reduceMul, reduceCtorEq, Int.reduceEq, Int.reduceLT, Int.reduceLE, Int.reduceNeg]
    refine ⟨?_, hx⟩
    simp [atB, h1, h2, h3]
theorem own1_ctr (a : At) (h : Heap) : Ctr Tryz.prog 125 [.agg a.enc] h fun x h' => x = .bool (!atB a) ∧ Ext h h' := by
  refine c125_ctr rfl (wpK_of ?_)
  unfold c125
  have he : (At.enc a).length = 3 := rfl
  obtain ⟨k, n, s⟩ := a
  have he : At.enc ⟨k, n, s⟩ = [.int .i64 k, .int .i64 n, .str s] := rfl
  rw [he]
  simp +contextual only [↓wA, wC, Ex.ends, evR, oneOf, top, ↓reduceIte, Nat.reduceEqDiff, Nat.reduceLeDiff, Nat.reduceAdd, Nat.reduceSub, Nat.reduceMul, reduceCtorEq, Int.reduceEq, Int.reduceLT, Int.reduceLE, Int.reduceNeg]
  refine callK_intro (he ▸ atom_ctr ⟨k, n, s⟩ _) ?_
  rintro x h1 ⟨rfl, hx1⟩
  simp +contextual only [↓wA, wC, Ex.ends, evR, oneOf, top, ↓reduceIte, Nat.reduceEqDiff, Nat.reduceLeDiff, Nat.reduceAdd, Nat.reduceSub, Nat.reduceMul, reduceCtorEq, Int.reduceEq, Int.reduceLT, Int.reduceLE, Int.reduceNeg]
  exact ((Ext.refl h).new _).trans hx1
theorem index_atom_ctr (l : List At) (v : V) (h : Heap) (H : SlV h 3 v l.length (atsV l)) (hl : l.length ≤ 4611686018427387904) :
    Ctr Tryz.prog 160 [v, .func 125 []] h fun x h' => (∃ i : Int, x = .int .i64 i ∧ decide (0 ≤ i) = !l.all atB) ∧ Ext h h' := by
  refine c160_ctr rfl (wpK_of ?_)
  unfold c160
  simp +contextual only [H.len, ↓wA, wC, Ex.ends, evR, oneOf, top, ↓reduceIte, Nat.reduceEqDiff, Nat.reduceLeDiff, Nat.reduceAdd, Nat.reduceSub, Nat.reduceMul, reduceCtorEq, Int.reduceEq, Int.reduceLT, Int.reduceLE, Int.reduceNeg]
  refine loopK_intro (fun r h' => Ext h h' ∧ r 0 = v ∧ r 1 = .func 125 [] ∧ r 7 = .int .i64 l.length ∧ ∃ i : Nat, r 8 = .int .i64 i ∧ i ≤ l.length ∧ l.all atB = (l.drop i).all atB) (fun r h' => l.length - (r 8).toN) ?_ ?_
  · exact ⟨Ext.refl h, by simp only [↓wA, wC, ↓reduceIte, Nat.reduceEqDiff, reduceCtorEq], by simp only [↓wA, wC, ↓reduceIte, Nat.reduceEqDiff, reduceCtorEq], by simp only [↓wA, wC, ↓reduceIte, Nat.reduceEqDiff, reduceCtorEq], 0, by simp only [↓wA, wC, ↓reduceIte, Nat.reduceEqDiff, reduceCtorEq] <;> rfl, by omega, rfl⟩
  · rintro r h' ⟨hx, r0, r1, r7, i, r8, hi, hok⟩
    unfold c160l1
    by_cases hlt : i < l.length
    · have g0 : ((i : Int) < (l.length : Int)) = True := eq_true (by omega)
      obtain ⟨b, o, ia, ld, _⟩ := ats_at (H.ext hx) (k := .i64) hlt
      rw [List.drop_eq_getElem_cons hlt, List.all_cons] at hok
      have w := w_inc hlt hl
      simp +contextual only [r0, r1, r7, r8, g0, ia, ld, ↓wA, wC, Ex.ends, evR, oneOf, top, ↓reduceIte, Nat.reduceEqDiff, Nat.reduceLeDiff, Nat.reduceAdd, Nat.reduceSub, Nat.reduceMul, reduceCtorEq, Int.reduceEq, Int.reduceLT, Int.reduceLE, Int.reduceNeg]
      refine callK_intro (own1_ctr l[i] h') ?_
      rintro x h1 ⟨rfl, hx1⟩
      cases ha : atB l[i] with
      | true =>
        simp +contextual only [r0, r1, r7, r8, w, ↓wA, wC, Ex.ends, evR, oneOf, top, ↓reduceIte, Nat.reduceEqDiff, Nat.reduceLeDiff, Nat.reduceAdd, Nat.reduceSub, Nat.reduceMul, reduceCtorEq, Int.reduceEq, Int.reduceLT, Int.reduceLE, Int.reduceNeg]
        exact ⟨⟨hx.trans hx1, ⟨i + 1, rfl, hlt, by rw [hok, ha, Bool.true_and]⟩⟩, by omega⟩
      | false =>
        simp +contextual only [r0, r1, r7, r8, w, ↓wA, wC, Ex.ends, evR, oneOf, top, ↓reduceIte, Nat.reduceEqDiff, Nat.reduceLeDiff, Nat.reduceAdd, Nat.reduceSub, Nat.reduceMul, reduceCtorEq, Int.reduceEq, Int.reduceLT, Int.reduceLE, Int.reduceNeg]
        refine ⟨⟨i, rfl, ?_⟩, hx.trans hx1⟩
        rw [hok, ha]
        simp
    · have g0 : ((i : Int) < (l.length : Int)) = False := eq_false (by omega)
      rw [List.drop_eq_nil_of_le (by omega)] at hok
      simp +contextual only [r0, r1, r7, r8, g0, ↓wA, wC, Ex.ends, evR, oneOf, top, ↓reduceIte, Nat.reduceEqDiff, Nat.reduceLeDiff, Nat.reduceAdd, Nat.reduceSub, Nat.reduceMul, reduceCtorEq, Int.reduceEq, Int.reduceLT, Int.reduceLE, Int.reduceNeg]
      exact ⟨⟨-1, rfl, by rw [hok]; rfl⟩, hx⟩
theorem contains_atom_ctr (l : List At) (v : V) (h : Heap) (H : SlV h 3 v l.length (atsV l)) (hl : l.length ≤ 4611686018427387904) :
    Ctr Tryz.prog 124 [v, .func 125 []] h fun x h' => x = .bool (!l.all atB) ∧ Ext h h' := by
  refine c124_ctr rfl (wpK_of ?_)
  unfold c124
  simp +contextual only [↓wA, wC, Ex.ends, evR, oneOf, top, ↓reduceIte, Nat.reduceEqDiff, Nat.reduceLeDiff, Nat.reduceAdd, Nat.reduceSub, Nat.reduceMul, reduceCtorEq, Int.reduceEq, Int.reduceLT, Int.reduceLE, Int.reduceNeg]
  refine callK_intro (index_atom_ctr l v h H hl) ?_
  rintro x h1 ⟨⟨i, rfl, hi⟩, hx1⟩
  simp +contextual only [hi, ↓wA, wC, Ex.ends, evR, oneOf, top, ↓reduceIte, Nat.reduceEqDiff, Nat.reduceLeDiff, Nat.reduceAdd, Nat.reduceSub, Nat.reduceMul, reduceCtorEq, Int.reduceEq, Int.reduceLT, Int.reduceLE, Int.reduceNeg]
  exact hx1
end Go.Proofs.YtjbiefneffiogaaGreat

namespace Go.Proofs.YtjbiefneffiogaaGreat
open Go Am
def Ru.enc (r : Ru) : List V := [.bool r.x, .bool r.n, .bool r.s, .bool r.tags, .int .i64 r.a0, .int .i64 r.a1, .int .i64 r.l0, .int .i64 r.l1]
theorem rules_ext (h : Heap) (e1 e2 e3 e4 : Blk) : Ext h ((((h.new e1).new e2).set (pa (h.next + 1)) e3).set (pa h.next) e4) := ((((Ext.refl h).new e1).new e2).set (by omega) e3).set (Nat.le_refl _) e4
set_option maxRecDepth 100000 in
theorem rules_low (k : Int) (h0 : k ≤ 0) (h : Heap) : Ctr Tryz.prog 119 [.int .i64 k] h fun x h' => x = .tuple [.agg ((rulesM k).getD Ru.none).enc, .bool (rulesM k).isSome] ∧ Ext h h' := by
  refine c119_ctr rfl (wpK_of ?_)
  unfold c119
  have h0' := eq_true h0
  have hr : rulesM k = none := by unfold rulesM; repeat rw [if_neg (by omega)]
  simp +contextual (maxSteps := 1000000) only [h0', hr, ↓wA, wC, Ex.ends, evR, oneOf, top, ↓reduceIte, Nat.reduceEqDiff, Nat.reduceLeDiff, Nat.reduceAdd, Nat.reduceSub, Nat.reduceMul, reduceCtorEq, Int.reduceEq, Int.reduceLT, Int.reduceLE, Int.reduceNeg]
  exact ⟨rfl, rules_ext h _ _ _ _⟩
set_option maxRecDepth 100000 in
theorem rules_high (k : Int) (h1 : 13 ≤ k) (h : Heap) : Ctr Tryz.prog 119 [.int .i64 k] h fun x h' => x = .tuple [.agg ((rulesM k).getD Ru.none).enc, .bool (rulesM k).isSome] ∧ Ext h h' := by
  refine c119_ctr rfl (wpK_of ?_)
  unfold c119
  have h0' : (k ≤ 0) = False := eq_false (by omega)
  have h1' := eq_true h1
  have hr : rulesM k = none := by unfold rulesM; repeat rw [if_neg (by omega)]
  simp +contextual (maxSteps := 1000000) only [h0', h1', hr, ↓wA, wC, Ex.ends, evR, oneOf, top, ↓reduceIte, Nat.reduceEqDiff, Nat.reduceLeDiff, Nat.reduceAdd, Nat.reduceSub, Nat.reduceMul, reduceCtorEq, Int.reduceEq, Int.reduceLT, Int.reduceLE, Int.reduceNeg]
  exact ⟨rfl, rules_ext h _ _ _ _⟩
set_option maxRecDepth 100000 in
theorem rules8 (h : Heap) : Ctr Tryz.prog 119 [.int .i64 8] h fun x h' => x = .tuple [.agg ((rulesM 8).getD Ru.none).enc, .bool (rulesM 8).isSome] ∧ Ext h h' := by
  refine c119_ctr rfl (wpK_of ?_)
  unfold c119
  have hr : rulesM 8 = none := by decide
  simp +contextual (maxSteps := 1000000) only [hr, ↓wA, wC, Ex.ends, evR, oneOf, top, ↓reduceIte, Nat.reduceEqDiff, Nat.reduceLeDiff, Nat.reduceAdd, Nat.reduceSub, Nat.reduceMul, reduceCtorEq, Int.reduceEq, Int.reduceLT, Int.reduceLE, Int.reduceNeg]
  exact ⟨rfl, rules_ext h _ _ _ _⟩
set_option maxRecDepth 100000 in
theorem rules1 (h : Heap) : Ctr Tryz.prog 119 [.int .i64 1] h fun x h' => x = .tuple [.agg ((rulesM 1).getD Ru.none).enc, .bool (rulesM 1).isSome] ∧ Ext h h' := by
  refine c119_ctr rfl (wpK_of ?_)
  unfold c119
  have t0 : ((1 : Int) < ((13 : Nat) : Int)) = True := eq_true (by decide)
  have t1 : (1 : Int).toNat = 1 := rfl
  simp +contextual (maxSteps := 1000000) only [iaa_eq, t0, t1, Nat.reduceMul, Nat.zero_add, ↓wA, wC, Ex.ends, evR, oneOf, top, ↓reduceIte, Nat.reduceEqDiff, Nat.reduceLeDiff, Nat.reduceAdd, Nat.reduceSub, Nat.reduceMul, reduceCtorEq, Int.reduceEq, Int.reduceLT, Int.reduceLE, Int.reduceNeg]
  exact ⟨rfl, rules_ext h _ _ _ _⟩
set_option maxRecDepth 100000 in
theorem rules2 (h : Heap) : Ctr Tryz.prog 119 [.int .i64 2] h fun x h' => x = .tuple [.agg ((rulesM 2).getD Ru.none).enc, .bool (rulesM 2).isSome] ∧ Ext h h' := by
  refine c119_ctr rfl (wpK_of ?_)
  unfold c119
  have t0 : ((2 : Int) < ((13 : Nat) : Int)) = True := eq_true (by decide)
  have t1 : (2 : Int).toNat = 2 := rfl
  simp +contextual (maxSteps := 1000000) only [iaa_eq, t0, t1, Nat.reduceMul, Nat.zero_add, ↓wA, wC, Ex.ends, evR, oneOf, top, ↓reduceIte, Nat.reduceEqDiff, Nat.reduceLeDiff, Nat.reduceAdd, Nat.reduceSub, Nat.reduceMul, reduceCtorEq, Int.reduceEq, Int.reduceLT, Int.reduceLE, Int.reduceNeg]
  exact ⟨rfl, rules_ext h _ _ _ _⟩
set_option maxRecDepth 100000 in
theorem rules3 (h : Heap) : Ctr Tryz.prog 119 [.int .i64 3] h fun x h' => x = .tuple [.agg ((rulesM 3).getD Ru.none).enc, .bool (rulesM 3).isSome] ∧ Ext h h' := by
  refine c119_ctr rfl (wpK_of ?_)
  unfold c119
  have t0 : ((3 : Int) < ((13 : Nat) : Int)) = True := eq_true (by decide)
  have t1 : (3 : Int).toNat = 3 := rfl
  simp +contextual (maxSteps := 1000000) only [iaa_eq, t0, t1, Nat.reduceMul, Nat.zero_add, ↓wA, wC, Ex.ends, evR, oneOf, top, ↓reduceIte, Nat.reduceEqDiff, Nat.reduceLeDiff, Nat.reduceAdd, Nat.reduceSub, Nat.reduceMul, reduceCtorEq, Int.reduceEq, Int.reduceLT, Int.reduceLE, Int.reduceNeg]
  exact ⟨rfl, rules_ext h _ _ _ _⟩
set_option maxRecDepth 100000 in
theorem rules4 (h : Heap) : Ctr Tryz.prog 119 [.int .i64 4] h fun x h' => x = .tuple [.agg ((rulesM 4).getD Ru.none).enc, .bool (rulesM 4).isSome] ∧ Ext h h' := by
  refine c119_ctr rfl (wpK_of ?_)
  unfold c119
  have t0 : ((4 : Int) < ((13 : Nat) : Int)) = True := eq_true (by decide)
  have t1 : (4 : Int).toNat = 4 := rfl
  simp +contextual (maxSteps := 1000000) only [iaa_eq, t0, t1, Nat.reduceMul, Nat.zero_add, ↓wA, wC, Ex.ends, evR, oneOf, top, ↓reduceIte, Nat.reduceEqDiff, Nat.reduceLeDiff, Nat.reduceAdd, Nat.reduceSub, Nat.reduceMul, reduceCtorEq, Int.reduceEq, Int.reduceLT, Int.reduceLE, Int.reduceNeg]
  exact ⟨rfl, rules_ext h _ _ _ _⟩
set_option maxRecDepth 100000 in
theorem rules5 (h : Heap) : Ctr Tryz.prog 119 [.int .i64 5] h fun x h' => x = .tuple [.agg ((rulesM 5).getD Ru.none).enc, .bool (rulesM 5).isSome] ∧ Ext h h' := by
  refine c119_ctr rfl (wpK_of ?_)
  unfold c119
  have t0 : ((5 : Int) < ((13 : Nat) : Int)) = True := eq_true (by decide)
  have t1 : (5 : Int).toNat = 5 := rfl
  simp +contextual (maxSteps := 1000000) only [iaa_eq, t0, t1, Nat.reduceMul, Nat.zero_add, ↓wA, wC, Ex.ends, evR, oneOf, top, ↓reduceIte, Nat.reduceEqDiff, Nat.reduceLeDiff, Nat.reduceAdd, Nat.reduceSub, Nat.reduceMul, reduceCtorEq, Int.reduceEq, Int.reduceLT, Int.reduceLE, Int.reduceNeg]
  exact ⟨rfl, rules_ext h _ _ _ _⟩
set_option maxRecDepth 100000 in
theorem rules6 (h : Heap) : Ctr Tryz.prog 119 [.int .i64 6] h fun x h' => x = .tuple [.agg ((rulesM 6).getD Ru.none).enc, .bool (rulesM 6).isSome] ∧ Ext h h' := by
  refine c119_ctr rfl (wpK_of ?_)
  unfold c119
  have t0 : ((6 : Int) < ((13 : Nat) : Int)) = True := eq_true (by decide)
  have t1 : (6 : Int).toNat = 6 := rfl
  simp +contextual (maxSteps := 1000000) only [iaa_eq, t0, t1, Nat.reduceMul, Nat.zero_add, ↓wA, wC, Ex.ends, evR, oneOf, top, ↓reduceIte, Nat.reduceEqDiff, Nat.reduceLeDiff, Nat.reduceAdd, Nat.reduceSub, Nat.reduceMul, reduceCtorEq, Int.reduceEq, Int.reduceLT, Int.reduceLE, Int.reduceNeg]
  exact ⟨rfl, rules_ext h _ _ _ _⟩
set_option maxRecDepth 100000 in
theorem rules7 (h : Heap) : Ctr Tryz.prog 119 [.int .i64 7] h fun x h' => x = .tuple [.agg ((rulesM 7).getD Ru.none).enc, .bool (rulesM 7).isSome] ∧ Ext h h' := by
  refine c119_ctr rfl (wpK_of ?_)
  unfold c119
  have t0 : ((7 : Int) < ((13 : Nat) : Int)) = True := eq_true (by decide)
  have t1 : (7 : Int).toNat = 7 := rfl
  simp +contextual (maxSteps := 1000000) only [iaa_eq, t0, t1, Nat.reduceMul, Nat.zero_add, ↓wA, wC, Ex.ends, evR, oneOf, top, ↓reduceIte, Nat.reduceEqDiff, Nat.reduceLeDiff, Nat.reduceAdd, Nat.reduceSub, Nat.reduceMul, reduceCtorEq, Int.reduceEq, Int.reduceLT, Int.reduceLE, Int.reduceNeg]
  exact ⟨rfl, rules_ext h _ _ _ _⟩
set_option maxRecDepth 100000 in
theorem rules9 (h : Heap) : Ctr Tryz.prog 119 [.int .i64 9] h fun x h' => x = .tuple [.agg ((rulesM 9).getD Ru.none).enc, .bool (rulesM 9).isSome] ∧ Ext h h' := by
  refine c119_ctr rfl (wpK_of ?_)
  unfold c119
  have t0 : ((9 : Int) < ((13 : Nat) : Int)) = True := eq_true (by decide)
  have t1 : (9 : Int).toNat = 9 := rfl
  simp +contextual (maxSteps := 1000000) only [iaa_eq, t0, t1, Nat.reduceMul, Nat.zero_add, ↓wA, wC, Ex.ends, evR, oneOf, top, ↓reduceIte, Nat.reduceEqDiff, Nat.reduceLeDiff, Nat.reduceAdd, Nat.reduceSub, Nat.reduceMul, reduceCtorEq, Int.reduceEq, Int.reduceLT, Int.reduceLE, Int.reduceNeg]
  exact ⟨rfl, rules_ext h _ _ _ _⟩
set_option maxRecDepth 100000 in
theorem rules10 (h : Heap) : Ctr Tryz.prog 119 [.int .i64 10] h fun x h' => x = .tuple [.agg ((rulesM 10).getD Ru.none).enc, .bool (rulesM 10).isSome] ∧ Ext h h' := by
  refine c119_ctr rfl (wpK_of ?_)
  unfold c119
  have t0 : ((10 : Int) < ((13 : Nat) : Int)) = True := eq_true (by decide)
  have t1 : (10 : Int).toNat = 10 := rfl
  simp +contextual (maxSteps := 1000000) only [iaa_eq, t0, t1, Nat.reduceMul, Nat.zero_add, ↓wA, wC, Ex.ends, evR, oneOf, top, ↓reduceIte, Nat.reduceEqDiff, Nat.reduceLeDiff, Nat.reduceAdd, Nat.reduceSub, Nat.reduceMul, reduceCtorEq, Int.reduceEq, Int.reduceLT, Int.reduceLE, Int.reduceNeg]
  exact ⟨rfl, rules_ext h _ _ _ _⟩
set_option maxRecDepth 100000 in
theorem rules11 (h : Heap) : Ctr Tryz.prog 119 [.int .i64 11] h fun x h' => x = .tuple [.agg ((rulesM 11).getD Ru.none).enc, .bool (rulesM 11).isSome] ∧ Ext h h' := by
  refine c119_ctr rfl (wpK_of ?_)
  unfold c119
  have t0 : ((11 : Int) < ((13 : Nat) : Int)) = True := eq_true (by decide)
  have t1 : (11 : Int).toNat = 11 := rfl
  simp +contextual (maxSteps := 1000000) only [iaa_eq, t0, t1, Nat.reduceMul, Nat.zero_add, ↓wA, wC, Ex.ends, evR, oneOf, top, ↓reduceIte, Nat.reduceEqDiff, Nat.reduceLeDiff, Nat.reduceAdd, Nat.reduceSub, Nat.reduceMul, reduceCtorEq, Int.reduceEq, Int.reduceLT, Int.reduceLE, Int.reduceNeg]
  exact ⟨rfl, rules_ext h _ _ _ _⟩
set_option maxRecDepth 100000 in
theorem rules12 (h : Heap) : Ctr Tryz.prog 119 [.int .i64 12] h fun x h' => x = .tuple [.agg ((rulesM 12).getD Ru.none).enc, .bool (rulesM 12).isSome] ∧ Ext h h' := by
  refine c119_ctr rfl (wpK_of ?_)
  unfold c119
  have t0 : ((12 : Int) < ((13 : Nat) : Int)) = True := eq_true (by decide)
  have t1 : (12 : Int).toNat = 12 := rfl
  simp +contextual (maxSteps := 1000000) only [iaa_eq, t0, t1, Nat.reduceMul, Nat.zero_add, ↓wA, wC, Ex.ends, evR, oneOf, top, ↓reduceIte, Nat.reduceEqDiff, Nat.reduceLeDiff, Nat.reduceAdd, Nat.reduceSub, Nat.reduceMul, reduceCtorEq, Int.reduceEq, Int.reduceLT, Int.reduceLE, Int.reduceNeg]
  exact ⟨rfl, rules_ext h _ _ _ _⟩
theorem rules_ctr (k : Int) (h : Heap) : Ctr Tryz.prog 119 [.int .i64 k] h fun x h' => x = .tuple [.agg ((rulesM k).getD Ru.none).enc, .bool (rulesM k).isSome] ∧ Ext h h' := by
  by_cases h0 : k ≤ 0
  · exact rules_low k h0 h
  by_cases h13 : 13 ≤ k
  · exact rules_high k h13 h
  have : k = 1 ∨ k = 2 ∨ k = 3 ∨ k = 4 ∨ k = 5 ∨ k = 6 ∨ k = 7 ∨ k = 8 ∨ k = 9 ∨ k = 10 ∨ k = 11 ∨ k = 12 := by omega
  rcases this with rfl | rfl | rfl | rfl | rfl | rfl | rfl | rfl | rfl | rfl | rfl | rfl
  · exact rules1 h
  · exact rules2 h
  · exact rules3 h
  · exact rules4 h
  · exact rules5 h
  · exact rules6 h
  · exact rules7 h
  · exact rules8 h
  · exact rules9 h
  · exact rules10 h
  · exact rules11 h
  · exact rules12 h
def esOf (kvs : List (List UInt8 × Int)) (n : Nat) : List ME :=
  match kvs with
  | [] => []
  | x :: l => ⟨.str x.1, .int .i64 x.2, n⟩ :: esOf l (n + 1)
theorem putS_new {k : List UInt8} {v : Int} {c : Nat} : ∀ (kvs : List (List UInt8 × Int)) (n : Nat), (kvs.all fun x => !decide (k = x.1)) = true →
    putV KK.str.eq (.str k) (.int .i64 v) c (esOf kvs n) = some (esOf kvs n ++ [⟨.str k, .int .i64 v, c⟩], true)
  | [], _, _ => rfl
  | x :: l, n, h => by
    simp only [List.all_cons, Bool.and_eq_true, Bool.not_eq_true', decide_eq_false_iff_not] at h
    have ih := putS_new (k := k) (v := v) (c := c) l (n + 1) (by simpa using h.2)
    have hb : beqBytes k x.1 = false := by rw [beqBytes_dec]; exact decide_eq_false h.1
    simp only [esOf, putV, KK.eq, eqStrC, hb, cond_false] at ih ⊢
    rw [ih]
    rfl
theorem esOf_app : ∀ (kvs : List (List UInt8 × Int)) (n : Nat) (k : List UInt8) (v : Int), esOf kvs n ++ [⟨.str k, .int .i64 v, n + kvs.length⟩] = esOf (kvs ++ [(k, v)]) n
  | [], n, k, v => rfl
  | x :: l, n, k, v => by
    rw [esOf, List.cons_append, List.cons_append, esOf, ← esOf_app l (n + 1) k v, List.length_cons]
    congr 4
    omega
def newKeys : List (List UInt8 × Int) → List (List UInt8 × Int) → Bool
  | _, [] => true
  | l, x :: m => (l.all fun y => !decide (x.1 = y.1)) && newKeys (l ++ [x]) m
def updOp (t : Nat) (x : List UInt8 × Int) : GO := ⟨none, .upd .str (.t t) (.c (.str x.1)) (.c (.int .i64 x.2)), none, [t]⟩
theorem set_set_same (h : Heap) (b : Pa) (k k' : Blk) : (h.set b k).set b k' = h.set b k' := by
  unfold Heap.set
  simp only [T.put_put]
theorem upds {t : Nat} {os : List GO} {ks : List KS} {Q : Ex → RF → Heap → Prop} {r : RF} {b : Pa} (hr : r t = .map b) : ∀ (m l : List (List UInt8 × Int)) (h : Heap), newKeys l m = true → h.get b = .mp (esOf l 0) l.length →
    wpK Tryz.prog (.os none os :: ks) .normal r (if m = [] then h else h.set b (.mp (esOf (l ++ m) 0) (l.length + m.length))) Q → wpK Tryz.prog (.os none (m.map (updOp t) ++ os) :: ks) .normal r h Q
  | [], l, h, _, _, H => by simpa using H
  | x :: m, l, h, hn, hg, H => by
    simp only [newKeys, Bool.and_eq_true] at hn
    rw [List.map_cons, List.cons_append]
    unfold updOp
    rw [k_upd]
    have hp := putS_new (k := x.1) (v := x.2) (c := l.length) l 0 hn.1
    have hu : updV KK.str.eq h (.map b) (.str x.1) (.int .i64 x.2) = some (h.set b (.mp (esOf (l ++ [x]) 0) (l.length + 1))) := by
      simp only [updV, hg, Blk.onMap, hp, cond_true, Option.some.injEq]
      rw [← esOf_app l 0 x.1 x.2, Nat.zero_add]
    have e1 : (RX.t t).ev (r.trim [t]) = .map b := by rw [ev_t, trim_mem (by simp), hr]
    rw [e1, ev_c, ev_c, hu]
    show wpK Tryz.prog (.os none (m.map (updOp t) ++ os) :: ks) .normal (r.set none .bad) (h.set b (.mp (esOf (l ++ [x]) 0) (l.length + 1))) Q
    refine upds hr m (l ++ [x]) _ hn.2 (by rw [get_set, if_pos rfl, List.length_append]; rfl) ?_
    rw [if_neg (by simp)] at H
    by_cases hm : m = []
    · subst hm
      simpa using H
    · rw [if_neg hm, set_set_same, List.append_assoc, List.singleton_append, List.length_append, show l.length + [x].length + m.length = l.length + (x :: m).length from by simp; omega]
      exact H
def primKvs : List (List UInt8 × Int) := prims2.map (fun s => (s, 2)) ++ prims1.map (fun s => (s, 1)) ++ [([99, 117, 116], 3)]
theorem prims_ctr (h : Heap) : Ctr Tryz.prog 122 [] h fun x h' => x = .map (pa h.next) ∧ h'.get (pa h.next) = .mp (esOf primKvs 0) 18 ∧ Ext h h' := by
  refine c122_ctr rfl (wpK_of ?_)
  unfold c122
  simp +contextual only [↓wA, wC, Ex.ends, evR, oneOf, top, ↓reduceIte, Nat.reduceEqDiff, Nat.reduceLeDiff, Nat.reduceAdd, Nat.reduceSub, Nat.reduceMul, reduceCtorEq, Int.reduceEq, Int.reduceLT, Int.reduceLE, Int.reduceNeg]
  rw [show makeMapV none h = .val (.map (pa h.next)) (h.new (.mp [] 0)) from rfl, so_val]
  refine upds (t := 1) (b := pa h.next) (by simp only [↓wA, wC, ↓reduceIte, Nat.reduceEqDiff, reduceCtorEq]) primKvs [] _ (by decide) (by rw [get_new_self]; rfl) ?_
  rw [if_neg (by decide)]
  simp +contextual only [↓wA, wC, Ex.ends, evR, oneOf, top, ↓reduceIte, Nat.reduceEqDiff, Nat.reduceLeDiff, Nat.reduceAdd, Nat.reduceSub, Nat.reduceMul, reduceCtorEq, Int.reduceEq, Int.reduceLT, Int.reduceLE, Int.reduceNeg]
  exact ⟨rfl, ((Ext.refl h).new _).set (Nat.le_refl _) _⟩
theorem find_es {k : List UInt8} : ∀ (kvs : List (List UInt8 × Int)) (n : Nat), findV KK.str.eq (.str k) (esOf kvs n) = some ((kvs.find? fun x => decide (k = x.1)).map fun x => .int .i64 x.2)
  | [], _ => rfl
  | x :: l, n => by
    simp only [esOf, findV, KK.eq, eqStrC, List.find?_cons]
    rw [beqBytes_dec]
    cases h : decide (k = x.1) with
    | true => rfl
    | false => exact find_es l (n + 1)
theorem takes_find (s : List UInt8) : (match (primKvs.find? fun x => decide (s = x.1)).map (fun x => x.2) with | some n => n | none => 0) = takes s := by
  unfold takes
  by_cases h2 : s ∈ prims2
  · rw [if_pos h2]
    simp only [prims2, List.mem_cons, List.not_mem_nil, or_false] at h2
    rcases h2 with rfl | rfl | rfl | rfl | rfl | rfl | rfl | rfl | rfl | rfl | rfl <;> rfl
  rw [if_neg h2]
  by_cases h1 : s ∈ prims1
  · rw [if_pos h1]
    simp only [prims1, List.mem_cons, List.not_mem_nil, or_false] at h1
    rcases h1 with rfl | rfl | rfl | rfl | rfl | rfl <;> rfl
  rw [if_neg h1]
  by_cases h3 : s = [99, 117, 116]
  · subst h3; rfl
  rw [if_neg h3]
  have : (primKvs.find? fun x => decide (s = x.1)) = none := by
    rw [List.find?_eq_none]
    intro x hx
    simp only [primKvs, List.mem_append, List.mem_map, List.mem_cons, List.not_mem_nil, or_false] at hx
    simp only [decide_eq_true_eq]
    rcases hx with (⟨y, hy, rfl⟩ | ⟨y, hy, rfl⟩) | rfl
    · rintro rfl; exact h2 hy
    · rintro rfl; exact h1 hy
    · exact h3
  rw [this]
  rfl
theorem look_prims {h : Heap} {b : Pa} (hg : h.get b = .mp (esOf primKvs 0) 18) (s : List UInt8) : lookupV KK.str.eq (.int .i64 0) false h (.map b) (.str s) = some (.int .i64 (takes s)) := by
  simp only [lookupV, mapSee, hg, Blk.onMap, find_es, cond_false]
  rw [← takes_find s]
  cases (primKvs.find? fun x => decide (s = x.1)) <;> rfl
end Go.Proofs.YtjbiefneffiogaaGreat

namespace Go.Proofs.YtjbiefneffiogaaGreat
open Go Am
def esT : List Int → Nat → List ME
  | [], _ => []
  | x :: l, n => ⟨.int .i64 x, .bool true, n⟩ :: esT l (n + 1)
theorem find_esT {k : Int} : ∀ (l : List Int) (n : Nat), findV KK.int.eq (.int .i64 k) (esT l n) = some (if l.contains k then some (.bool true) else none)
  | [], _ => rfl
  | x :: l, n => by
    have ih := find_esT (k := k) l (n + 1)
    simp only [esT, findV, KK.eq, eqIntC, V.onInt, show eqKind .i64 .i64 = true from rfl, cond_true, eqB_dec, List.contains_cons] at ih ⊢
    by_cases h : k = x
    · subst h; simp
    · have hb : (k == x) = false := by simpa using h
      rw [decide_eq_false h, hb, Bool.false_or]
      exact ih
theorem put_esT {k : Int} {c : Nat} : ∀ (l : List Int) (n : Nat), l.contains k = false → putV KK.int.eq (.int .i64 k) (.bool true) c (esT l n) = some (esT l n ++ [⟨.int .i64 k, .bool true, c⟩], true)
  | [], _, _ => rfl
  | x :: l, n, h => by
    rw [List.contains_cons, Bool.or_eq_false_iff] at h
    have ih := put_esT (k := k) (c := c) l (n + 1) h.2
    have hx : ¬ k = x := by simpa using h.1
    simp only [esT, putV, KK.eq, eqIntC, V.onInt, show eqKind .i64 .i64 = true from rfl, cond_true, eqB_dec, decide_eq_false hx, cond_false] at ih ⊢
    rw [ih]
    rfl
theorem esT_app : ∀ (l : List Int) (n : Nat) (k : Int), esT l n ++ [⟨.int .i64 k, .bool true, n + l.length⟩] = esT (l ++ [k]) n
  | [], n, k => rfl
  | x :: l, n, k => by
    rw [esT, List.cons_append, List.cons_append, esT, ← esT_app l (n + 1) k, List.length_cons]
    congr 4
    omega
theorem look_esT {h : Heap} {b : Pa} {l : List Int} {c : Nat} (hg : h.get b = .mp (esT l 0) c) (k : Int) : lookupV KK.int.eq (.bool false) false h (.map b) (.int .i64 k) = some (.bool (l.contains k)) := by
  simp only [lookupV, mapSee, hg, Blk.onMap, find_esT, cond_false]
  cases l.contains k <;> rfl
theorem upd_esT {h : Heap} {b : Pa} {l : List Int} (hg : h.get b = .mp (esT l 0) l.length) {k : Int} (hk : l.contains k = false) : updV KK.int.eq h (.map b) (.int .i64 k) (.bool true) = some (h.set b (.mp (esT (l ++ [k]) 0) (l ++ [k]).length)) := by
  simp only [updV, hg, Blk.onMap, put_esT l 0 hk, cond_true, Option.some.injEq]
  rw [← esT_app l 0 k, Nat.zero_add, List.length_append]
  rfl
def tagsL (nums : Bool) : List Int → List Int → Bool
  | _, [] => true
  | seen, t :: l => (if nums then numB t else varB t) && !seen.contains t && tagsL nums (seen ++ [t]) l
theorem tagsL_eq (nums : Bool) : ∀ (l seen : List Int), tagsL nums seen l = (tagsB nums l && l.all fun t => !seen.contains t)
  | [], seen => by simp [tagsL, tagsB, diff]
  | t :: l, seen => by
    rw [tagsL, tagsL_eq nums l (seen ++ [t])]
    have : (l.all fun u => !(seen ++ [t]).contains u) = ((l.all fun u => !seen.contains u) && !l.contains t) := by
      rw [Bool.eq_iff_iff]
      simp only [List.all_eq_true, Bool.and_eq_true, Bool.not_eq_true', List.contains_eq_mem, decide_eq_false_iff_not, List.mem_append, List.mem_singleton, not_or]
      constructor
      · intro h; exact ⟨fun x hx => (h x hx).1, fun ht => (h t ht).2 rfl⟩
      · rintro ⟨h1, h2⟩ x hx; exact ⟨h1 x hx, fun e => h2 (e ▸ hx)⟩
    rw [this]
    simp only [tagsB, List.all_cons, diff]
    generalize (if nums = true then numB t else varB t) = p
    generalize seen.contains t = q
    generalize l.contains t = r
    cases p <;> cases q <;> cases r <;> simp [Bool.and_assoc, Bool.and_comm, Bool.and_left_comm]
theorem tagsL_nil (nums : Bool) (l : List Int) : tagsL nums [] l = tagsB nums l := by rw [tagsL_eq]; simp
theorem tagged_ctr (c : Co) (vs : List V) (h : Heap) (H : CoIn h c vs) (hl : c.t.length ≤ 4611686018427387903) (hl2 : c.l.length ≤ 4611686018427387903) : Ctr Tryz.prog 123 [.agg vs] h fun x h' => x = .bool (taggedP c) ∧ Ext h h' := by
  obtain ⟨va, vt, vl, rfl, Ha, Ht, Hl⟩ := H.open
  refine c123_ctr rfl (wpK_of ?_)
  unfold c123
  have e0 : Ext h (h.new (.ofL [.int .i64 c.k, .int .i64 c.x, .int .i64 c.n, .str c.s, va, vt, vl] 0 false)) := (Ext.refl h).new _
  simp +contextual only [show ∀ g : Heap, makeMapV none g = .val (.map (pa g.next)) (g.new (.mp [] 0)) from fun g => rfl, Ht.len, ↓wA, wC, Ex.ends, evR, oneOf, top, ↓reduceIte, Nat.reduceEqDiff, Nat.reduceLeDiff, Nat.reduceAdd, Nat.reduceSub, Nat.reduceMul, reduceCtorEq, Int.reduceEq, Int.reduceLT, Int.reduceLE, Int.reduceNeg]
  refine loopK_intro (fun r h' => Ext h h' ∧ h'.get (pa h.next) = .ofL [.int .i64 c.k, .int .i64 c.x, .int .i64 c.n, .str c.s, va, vt, vl] 0 false ∧ h.next + 2 ≤ h'.next ∧ r 1 = .ptr (pa h.next) 0 ∧ r 3 = .map (pa (h.next + 1)) ∧ r 9 = vt ∧ r 10 = .int .i64 c.t.length ∧
    ∃ i : Nat, r 11 = .int .i64 i ∧ i ≤ c.t.length ∧ h'.get (pa (h.next + 1)) = .mp (esT (c.t.take i) 0) (c.t.take i).length ∧ tagsB (decide (c.k = 10)) c.t = tagsL (decide (c.k = 10)) (c.t.take i) (c.t.drop i)) (fun r h' => c.t.length - (r 11).toN) ?_ ?_
  · refine ⟨(e0.new _), ?_, ?_, by simp only [↓wA, wC, ↓reduceIte, Nat.reduceEqDiff, reduceCtorEq], by simp only [↓wA, wC, ↓reduceIte, Nat.reduceEqDiff, reduceCtorEq], by simp only [↓wA, wC, ↓reduceIte, Nat.reduceEqDiff, reduceCtorEq], by simp only [↓wA, wC, ↓reduceIte, Nat.reduceEqDiff, reduceCtorEq], 0, by simp only [↓wA, wC, ↓reduceIte, Nat.reduceEqDiff, reduceCtorEq] <;> rfl, by omega, ?_, ?_⟩
    · simp only [↓wA, wC, Ex.ends, evR, oneOf, top, ↓reduceIte, Nat.reduceEqDiff, Nat.reduceLeDiff, Nat.reduceAdd, Nat.reduceSub, Nat.reduceMul, reduceCtorEq, Int.reduceEq, Int.reduceLT, Int.reduceLE, Int.reduceNeg]
    · simp only [next_new]; omega
    · simp only [↓wA, wC, Ex.ends, evR, oneOf, top, ↓reduceIte, Nat.reduceEqDiff, Nat.reduceLeDiff, Nat.reduceAdd, Nat.reduceSub, Nat.reduceMul, reduceCtorEq, Int.reduceEq, Int.reduceLT, Int.reduceLE, Int.reduceNeg]; rfl
    · rw [List.take_zero, List.drop_zero, tagsL_nil]
  · rintro r h' ⟨hx, hb, hn, r1, r3, r9, r10, i, r11, hi, hm, hok⟩
    unfold c123l1
    by_cases hlt : i < c.t.length
    · have g0 : ((i : Int) < (c.t.length : Int)) = True := eq_true (by omega)
      obtain ⟨b, o, ia, ld⟩ := ints_at (Ht.ext hx) (k := .i64) hlt
      rw [List.drop_eq_getElem_cons hlt, tagsL] at hok
      have w := w_inc hlt (by omega)
      have lk := look_esT hm c.t[i]
      have hne : (h.next = h.next + 1) = False := eq_false (by omega)
      have hne' : (h.next + 1 = h.next) = False := eq_false (by omega)
      have hmx := hx.set (i := h.next + 1) (by omega) (.mp (esT (c.t.take i ++ [c.t[i]]) 0) (c.t.take i ++ [c.t[i]]).length)
      have htk : c.t.take (i + 1) = c.t.take i ++ [c.t[i]] := by rw [List.take_add_one, List.getElem?_eq_getElem hlt]; rfl
      have hb2 : (h'.set (pa (h.next + 1)) (.mp (esT (c.t.take i ++ [c.t[i]]) 0) (c.t.take i ++ [c.t[i]]).length)).get (pa h.next) = .ofL [.int .i64 c.k, .int .i64 c.x, .int .i64 c.n, .str c.s, va, vt, vl] 0 false := by
        rw [get_set, if_neg (by rw [pa_eq]; omega)]; exact hb
      have hm2 : (h'.set (pa (h.next + 1)) (.mp (esT (c.t.take i ++ [c.t[i]]) 0) (c.t.take i ++ [c.t[i]]).length)).get (pa (h.next + 1)) = .mp (esT (c.t.take i ++ [c.t[i]]) 0) (c.t.take i ++ [c.t[i]]).length := by
        rw [get_set, if_pos rfl]
      simp +contextual only [r1, r3, r9, r10, r11, g0, ia, ld, ↓wA, wC, Ex.ends, evR, oneOf, top, ↓reduceIte, Nat.reduceEqDiff, Nat.reduceLeDiff, Nat.reduceAdd, Nat.reduceSub, Nat.reduceMul, reduceCtorEq, Int.reduceEq, Int.reduceLT, Int.reduceLE, Int.reduceNeg]
      refine callK_pure (variable_pure _ _) ?_
      have hnum : (decide (-1073741824 ≤ c.t[i]) && decide (c.t[i] ≤ 1073741823)) = numB c.t[i] := rfl
      generalize hV : (if (decide (c.k = 10)) = true then numB c.t[i] else varB c.t[i]) = good at hok
      have hfin : good = true → (c.t.take i).contains c.t[i] = false → tagsB (decide (c.k = 10)) c.t = tagsL (decide (c.k = 10)) (c.t.take (i + 1)) (c.t.drop (i + 1)) := by
        intro q1 q2
        rw [hok, q1, q2, htk]; rfl
      have hbad : (!good || (c.t.take i).contains c.t[i]) = true → taggedP c = false := by
        intro q
        have : tagsB (decide (c.k = 10)) c.t = false := by
          rw [hok]
          revert q
          cases good <;> cases (c.t.take i).contains c.t[i] <;> simp
        rw [taggedP, this, Bool.false_and]
      by_cases hk : c.k = 10
      · have hk1 := eq_true hk
        have hgood : numB c.t[i] = good := by rw [← hV, if_pos (decide_eq_true hk)]
        simp +contextual only [r1, r3, r9, r10, r11, hb, hk1, hnum, hgood, lk, ↓wA, wC, Ex.ends, evR, oneOf, top, ↓reduceIte, Nat.reduceEqDiff, Nat.reduceLeDiff, Nat.reduceAdd, Nat.reduceSub, Nat.reduceMul, reduceCtorEq, Int.reduceEq, Int.reduceLT, Int.reduceLE, Int.reduceNeg]
        cases good with
        | false =>
          have hbd := hbad (by simp)
          simp +contextual only [r1, r3, r9, r10, r11, hbd, ↓wA, wC, Ex.ends, evR, oneOf, top, ↓reduceIte, Nat.reduceEqDiff, Nat.reduceLeDiff, Nat.reduceAdd, Nat.reduceSub, Nat.reduceMul, reduceCtorEq, Int.reduceEq, Int.reduceLT, Int.reduceLE, Int.reduceNeg]
          exact hx
        | true =>
          cases hs : (c.t.take i).contains c.t[i] with
          | true =>
            have hbd := hbad (by rw [hs]; rfl)
            simp +contextual only [r1, r3, r9, r10, r11, lk, hs, hbd, ↓wA, wC, Ex.ends, evR, oneOf, top, ↓reduceIte, Nat.reduceEqDiff, Nat.reduceLeDiff, Nat.reduceAdd, Nat.reduceSub, Nat.reduceMul, reduceCtorEq, Int.reduceEq, Int.reduceLT, Int.reduceLE, Int.reduceNeg]
            exact hx
          | false =>
            have hu := upd_esT hm hs
            simp +contextual only [r1, r3, r9, r10, r11, lk, hs, hu, w, ↓wA, wC, Ex.ends, evR, oneOf, top, ↓reduceIte, Nat.reduceEqDiff, Nat.reduceLeDiff, Nat.reduceAdd, Nat.reduceSub, Nat.reduceMul, reduceCtorEq, Int.reduceEq, Int.reduceLT, Int.reduceLE, Int.reduceNeg]
            exact ⟨⟨hmx, hb, hn, ⟨i + 1, rfl, hlt, by rw [htk], by have := hfin rfl hs; simpa only [hk1, decide_true, decide_false] using this⟩⟩, by omega⟩
      · have hk1 := eq_false hk
        have hgood : varB c.t[i] = good := by rw [← hV, if_neg (by simp [hk])]
        simp +contextual only [r1, r3, r9, r10, r11, hb, hk1, hnum, hgood, lk, ↓wA, wC, Ex.ends, evR, oneOf, top, ↓reduceIte, Nat.reduceEqDiff, Nat.reduceLeDiff, Nat.reduceAdd, Nat.reduceSub, Nat.reduceMul, reduceCtorEq, Int.reduceEq, Int.reduceLT, Int.reduceLE, Int.reduceNeg]
        cases good with
        | false =>
          have hbd := hbad (by simp)
          simp +contextual only [r1, r3, r9, r10, r11, hbd, ↓wA, wC, Ex.ends, evR, oneOf, top, ↓reduceIte, Nat.reduceEqDiff, Nat.reduceLeDiff, Nat.reduceAdd, Nat.reduceSub, Nat.reduceMul, reduceCtorEq, Int.reduceEq, Int.reduceLT, Int.reduceLE, Int.reduceNeg]
          exact hx
        | true =>
          cases hs : (c.t.take i).contains c.t[i] with
          | true =>
            have hbd := hbad (by rw [hs]; rfl)
            simp +contextual only [r1, r3, r9, r10, r11, lk, hs, hbd, ↓wA, wC, Ex.ends, evR, oneOf, top, ↓reduceIte, Nat.reduceEqDiff, Nat.reduceLeDiff, Nat.reduceAdd, Nat.reduceSub, Nat.reduceMul, reduceCtorEq, Int.reduceEq, Int.reduceLT, Int.reduceLE, Int.reduceNeg]
            exact hx
          | false =>
            have hu := upd_esT hm hs
            simp +contextual only [r1, r3, r9, r10, r11, lk, hs, hu, w, ↓wA, wC, Ex.ends, evR, oneOf, top, ↓reduceIte, Nat.reduceEqDiff, Nat.reduceLeDiff, Nat.reduceAdd, Nat.reduceSub, Nat.reduceMul, reduceCtorEq, Int.reduceEq, Int.reduceLT, Int.reduceLE, Int.reduceNeg]
            exact ⟨⟨hmx, hb, hn, ⟨i + 1, rfl, hlt, by rw [htk], by have := hfin rfl hs; simpa only [hk1, decide_true, decide_false] using this⟩⟩, by omega⟩
    · have g0 : ((i : Int) < (c.t.length : Int)) = False := eq_false (by omega)
      rw [List.drop_eq_nil_of_le (by omega)] at hok
      have hL := (Hl.ext hx).len
      have hT := (Ht.ext hx).len
      have w2 : IntKind.i64.wrap ((c.t.length : Int) + 1) = (c.t.length : Int) + 1 := by rw [wrap_i64 (by omega) (by omega)]
      simp +contextual only [r1, r3, r9, r10, r11, g0, hb, hL, hT, w2, ↓wA, wC, Ex.ends, evR, oneOf, top, ↓reduceIte, Nat.reduceEqDiff, Nat.reduceLeDiff, Nat.reduceAdd, Nat.reduceSub, Nat.reduceMul, reduceCtorEq, Int.reduceEq, Int.reduceLT, Int.reduceLE, Int.reduceNeg]
      refine ⟨?_, hx⟩
      rw [taggedP, hok]
      rfl
end Go.Proofs.YtjbiefneffiogaaGreat

namespace Go.Proofs.YtjbiefneffiogaaGreat
open Go Am
theorem ownP_none {b : Bool} {c : Co} (h : rulesM c.k = none) : ownP b c = false := by simp [ownP, h]
set_option maxHeartbeats 2000000 in
theorem own_ctr (b : Bool) (c : Co) (vs : List V) (h : Heap) (H : CoIn h c vs) (h1 : c.t.length ≤ 4611686018427387903) (h2 : c.l.length ≤ 4611686018427387903) (h3 : c.a.length ≤ 4611686018427387903) :
    Ctr Tryz.prog 61 [.agg vs, .bool b] h fun x h' => x = .bool (ownP b c) ∧ Ext h h' := by
  obtain ⟨va, vt, vl, rfl, Ha, Ht, Hl⟩ := H.open
  refine c61_ctr rfl (wpK_of ?_)
  unfold c61
  simp +contextual only [↓wA, wC, Ex.ends, evR, oneOf, top, ↓reduceIte, Nat.reduceEqDiff, Nat.reduceLeDiff, Nat.reduceAdd, Nat.reduceSub, Nat.reduceMul, reduceCtorEq, Int.reduceEq, Int.reduceLT, Int.reduceLE, Int.reduceNeg]
  refine callK_intro (rules_ctr c.k _) ?_
  rintro x g1 ⟨rfl, hx1⟩
  have e0 : Ext h (h.new (.ofL [.int .i64 c.k, .int .i64 c.x, .int .i64 c.n, .str c.s, va, vt, vl] 0 false)) := (Ext.refl h).new _
  have hx := e0.trans hx1
  have hb : g1.get (pa h.next) = .ofL [.int .i64 c.k, .int .i64 c.x, .int .i64 c.n, .str c.s, va, vt, vl] 0 false := by rw [hx1.get _ (old_lt (by rw [next_new]; omega)), get_new_self]
  have hlt : h.next < g1.next := by have := hx1.next; rw [next_new] at this; omega
  have n1 : (g1.next = h.next) = False := eq_false (by omega)
  have n2 : (h.next = g1.next) = False := eq_false (by omega)
  cases hr : rulesM c.k with
  | none =>
    have hp := ownP_none (b := b) hr
    simp +contextual only [hr, hp, Option.getD, Option.isSome, Ru.enc, Ru.none, hb, n1, n2, ↓wA, wC, Ex.ends, evR, oneOf, top, ↓reduceIte, Nat.reduceEqDiff, Nat.reduceLeDiff, Nat.reduceAdd, Nat.reduceSub, Nat.reduceMul, reduceCtorEq, Int.reduceEq, Int.reduceLT, Int.reduceLE, Int.reduceNeg]
    exact (hx.new _).set (by omega) _
  | some r =>
    obtain ⟨rx, rn, rs, rt, a0, a1, l0, l1⟩ := r
    have hO : ownP b c = (varB c.x && (rx || decide (c.x = 0)) && (rn || b || decide (c.n = 0)) && (rs || decide (c.s = [])) && (rt || decide (c.t = [])) &&
      (withinI c.a.length a0 a1 && withinI c.l.length l0 l1 && varB c.n) &&
      (!(decide (c.k = 5) && decide (1024 ≤ c.n)) && !(decide (c.k = 3) && !decide (takes c.s = c.a.length)) && (!rt || taggedP c)) && c.a.all atB) := by
      simp only [ownP, hr]
    have ht0 : (c.t = []) ↔ c.t.length = 0 := by rw [List.length_eq_zero_iff]
    simp +contextual only [hr, Option.getD, Option.isSome, Ru.enc, hb, n1, n2, ↓wA, wC, Ex.ends, evR, oneOf, top, ↓reduceIte, Nat.reduceEqDiff, Nat.reduceLeDiff, Nat.reduceAdd, Nat.reduceSub, Nat.reduceMul, reduceCtorEq, Int.reduceEq, Int.reduceLT, Int.reduceLE, Int.reduceNeg]
    refine callK_pure (variable_pure _ _) ?_
    cases hvx : varB c.x with
    | false =>
      have hf : ownP b c = false := by rw [hO]; grind
      simp +contextual only [hb, n1, n2, hf, ↓wA, wC, Ex.ends, evR, oneOf, top, ↓reduceIte, Nat.reduceEqDiff, Nat.reduceLeDiff, Nat.reduceAdd, Nat.reduceSub, Nat.reduceMul, reduceCtorEq, Int.reduceEq, Int.reduceLT, Int.reduceLE, Int.reduceNeg]
      exact (hx.new _).set (by omega) _
    | true =>
    cases q1 : (!rx && !decide (c.x = 0)) with
    | true =>
      have hf : ownP b c = false := by rw [hO]; grind
      simp +contextual only [hb, n1, n2, q1, hf, ↓wA, wC, Ex.ends, evR, oneOf, top, ↓reduceIte, Nat.reduceEqDiff, Nat.reduceLeDiff, Nat.reduceAdd, Nat.reduceSub, Nat.reduceMul, reduceCtorEq, Int.reduceEq, Int.reduceLT, Int.reduceLE, Int.reduceNeg]
      exact (hx.new _).set (by omega) _
    | false =>
    cases q2 : (!rn && !b && !decide (c.n = 0)) with
    | true =>
      have hf : ownP b c = false := by rw [hO]; grind
      simp +contextual only [hb, n1, n2, q1, q2, hf, ↓wA, wC, Ex.ends, evR, oneOf, top, ↓reduceIte, Nat.reduceEqDiff, Nat.reduceLeDiff, Nat.reduceAdd, Nat.reduceSub, Nat.reduceMul, reduceCtorEq, Int.reduceEq, Int.reduceLT, Int.reduceLE, Int.reduceNeg]
      exact (hx.new _).set (by omega) _
    | false =>
    cases q3 : (!rs && !decide (c.s = [])) with
    | true =>
      have hf : ownP b c = false := by rw [hO]; grind
      simp +contextual only [hb, n1, n2, q1, q2, q3, hf, ↓wA, wC, Ex.ends, evR, oneOf, top, ↓reduceIte, Nat.reduceEqDiff, Nat.reduceLeDiff, Nat.reduceAdd, Nat.reduceSub, Nat.reduceMul, reduceCtorEq, Int.reduceEq, Int.reduceLT, Int.reduceLE, Int.reduceNeg]
      exact (hx.new _).set (by omega) _
    | false =>
    have hT0 := (Ht.ext hx).len
    cases q4 : (!rt && decide (0 < (c.t.length : Int))) with
    | true =>
      have hf : ownP b c = false := by rw [hO]; grind
      simp +contextual only [hb, n1, n2, q1, q2, q3, q4, hT0, hf, ↓wA, wC, Ex.ends, evR, oneOf, top, ↓reduceIte, Nat.reduceEqDiff, Nat.reduceLeDiff, Nat.reduceAdd, Nat.reduceSub, Nat.reduceMul, reduceCtorEq, Int.reduceEq, Int.reduceLT, Int.reduceLE, Int.reduceNeg]
      exact (hx.new _).set (by omega) _
    | false =>
    have hA0 := (Ha.ext hx).len
    have keep : ∀ g g' : Heap, Ext g g' → g1.next < g.next ∧ g.get (pa h.next) = .ofL [.int .i64 c.k, .int .i64 c.x, .int .i64 c.n, .str c.s, va, vt, vl] 0 false ∧ g.get (pa g1.next) = .ofL [.bool rx, .bool rn, .bool rs, .bool rt, .int .i64 a0, .int .i64 a1, .int .i64 l0, .int .i64 l1] 0 false →
        g1.next < g'.next ∧ g'.get (pa h.next) = .ofL [.int .i64 c.k, .int .i64 c.x, .int .i64 c.n, .str c.s, va, vt, vl] 0 false ∧ g'.get (pa g1.next) = .ofL [.bool rx, .bool rn, .bool rs, .bool rt, .int .i64 a0, .int .i64 a1, .int .i64 l0, .int .i64 l1] 0 false := by
      rintro g g' e ⟨k1, k2, k3⟩
      exact ⟨Nat.lt_of_lt_of_le k1 e.next, by rw [e.get _ (old_lt (by omega))]; exact k2, by rw [e.get _ (old_lt k1)]; exact k3⟩
    simp +contextual only [hb, n1, n2, q1, q2, q3, q4, hT0, hA0, ↓wA, wC, Ex.ends, evR, oneOf, top, ↓reduceIte, Nat.reduceEqDiff, Nat.reduceLeDiff, Nat.reduceAdd, Nat.reduceSub, Nat.reduceMul, reduceCtorEq, Int.reduceEq, Int.reduceLT, Int.reduceLE, Int.reduceNeg]
    have s1 : Ext h ((g1.new (Blk.ofL [V.bool false, V.bool false, V.bool false, V.bool false, V.int IntKind.i64 0, V.int IntKind.i64 0, V.int IntKind.i64 0, V.int IntKind.i64 0] 0 false)).set (pa g1.next) (.ofL [.bool rx, .bool rn, .bool rs, .bool rt, .int .i64 a0, .int .i64 a1, .int .i64 l0, .int .i64 l1] 0 false)) := (hx.new _).set (by omega) _
    have k1 : g1.next < ((g1.new (Blk.ofL [V.bool false, V.bool false, V.bool false, V.bool false, V.int IntKind.i64 0, V.int IntKind.i64 0, V.int IntKind.i64 0, V.int IntKind.i64 0] 0 false)).set (pa g1.next) (.ofL [.bool rx, .bool rn, .bool rs, .bool rt, .int .i64 a0, .int .i64 a1, .int .i64 l0, .int .i64 l1] 0 false)).next ∧ ((g1.new (Blk.ofL [V.bool false, V.bool false, V.bool false, V.bool false, V.int IntKind.i64 0, V.int IntKind.i64 0, V.int IntKind.i64 0, V.int IntKind.i64 0] 0 false)).set (pa g1.next) (.ofL [.bool rx, .bool rn, .bool rs, .bool rt, .int .i64 a0, .int .i64 a1, .int .i64 l0, .int .i64 l1] 0 false)).get (pa h.next) = .ofL [.int .i64 c.k, .int .i64 c.x, .int .i64 c.n, .str c.s, va, vt, vl] 0 false ∧ ((g1.new (Blk.ofL [V.bool false, V.bool false, V.bool false, V.bool false, V.int IntKind.i64 0, V.int IntKind.i64 0, V.int IntKind.i64 0, V.int IntKind.i64 0] 0 false)).set (pa g1.next) (.ofL [.bool rx, .bool rn, .bool rs, .bool rt, .int .i64 a0, .int .i64 a1, .int .i64 l0, .int .i64 l1] 0 false)).get (pa g1.next) = .ofL [.bool rx, .bool rn, .bool rs, .bool rt, .int .i64 a0, .int .i64 a1, .int .i64 l0, .int .i64 l1] 0 false := by
      refine ⟨by rw [next_set, next_new]; omega, ?_, ?_⟩
      · rw [get_set, if_neg (by rw [pa_eq]; omega), get_new, if_neg (by rw [pa_eq]; omega)]; exact hb
      · rw [get_set, if_pos rfl]
    generalize (g1.new (Blk.ofL [V.bool false, V.bool false, V.bool false, V.bool false, V.int IntKind.i64 0, V.int IntKind.i64 0, V.int IntKind.i64 0, V.int IntKind.i64 0] 0 false)).set (pa g1.next) (.ofL [.bool rx, .bool rn, .bool rs, .bool rt, .int .i64 a0, .int .i64 a1, .int .i64 l0, .int .i64 l1] 0 false) = G1 at *
    refine callK_intro (within_ctr _ _ _ G1) ?_
    rintro x g2 ⟨rfl, hx2⟩
    obtain ⟨k2, c2, d2⟩ := keep G1 g2 hx2 k1
    have s2 := s1.trans hx2
    have hL2 := (Hl.ext s2).len
    cases w1 : withinI (c.a.length : Int) a0 a1 with
    | false =>
      have hf : ownP b c = false := by rw [hO]; grind
      simp +contextual only [c2, d2, n1, n2, w1, hf, ↓wA, wC, Ex.ends, evR, oneOf, top, ↓reduceIte, Nat.reduceEqDiff, Nat.reduceLeDiff, Nat.reduceAdd, Nat.reduceSub, Nat.reduceMul, reduceCtorEq, Int.reduceEq, Int.reduceLT, Int.reduceLE, Int.reduceNeg]
      exact s2
    | true =>
    simp +contextual only [c2, d2, n1, n2, w1, hL2, ↓wA, wC, Ex.ends, evR, oneOf, top, ↓reduceIte, Nat.reduceEqDiff, Nat.reduceLeDiff, Nat.reduceAdd, Nat.reduceSub, Nat.reduceMul, reduceCtorEq, Int.reduceEq, Int.reduceLT, Int.reduceLE, Int.reduceNeg]
    refine callK_intro (within_ctr _ _ _ g2) ?_
    rintro x g3 ⟨rfl, hx3⟩
    obtain ⟨k3, c3, d3⟩ := keep g2 g3 hx3 ⟨k2, c2, d2⟩
    have s3 := s2.trans hx3
    cases w2 : withinI (c.l.length : Int) l0 l1 with
    | false =>
      have hf : ownP b c = false := by rw [hO]; grind
      simp +contextual only [c3, d3, n1, n2, w2, hf, ↓wA, wC, Ex.ends, evR, oneOf, top, ↓reduceIte, Nat.reduceEqDiff, Nat.reduceLeDiff, Nat.reduceAdd, Nat.reduceSub, Nat.reduceMul, reduceCtorEq, Int.reduceEq, Int.reduceLT, Int.reduceLE, Int.reduceNeg]
      exact s3
    | true =>
    simp +contextual only [c3, d3, n1, n2, w2, ↓wA, wC, Ex.ends, evR, oneOf, top, ↓reduceIte, Nat.reduceEqDiff, Nat.reduceLeDiff, Nat.reduceAdd, Nat.reduceSub, Nat.reduceMul, reduceCtorEq, Int.reduceEq, Int.reduceLT, Int.reduceLE, Int.reduceNeg]
    refine callK_pure (variable_pure _ _) ?_
    cases hvn : varB c.n with
    | false =>
      have hf : ownP b c = false := by rw [hO]; grind
      simp +contextual only [c3, d3, n1, n2, hf, ↓wA, wC, Ex.ends, evR, oneOf, top, ↓reduceIte, Nat.reduceEqDiff, Nat.reduceLeDiff, Nat.reduceAdd, Nat.reduceSub, Nat.reduceMul, reduceCtorEq, Int.reduceEq, Int.reduceLT, Int.reduceLE, Int.reduceNeg]
      exact s3
    | true =>
    have hA3 := (Ha.ext s3).len
    cases w3 : (decide (c.k = 5) && decide (1024 ≤ c.n)) with
    | true =>
      have hf : ownP b c = false := by rw [hO]; grind
      simp +contextual only [c3, d3, n1, n2, w3, hf, ↓wA, wC, Ex.ends, evR, oneOf, top, ↓reduceIte, Nat.reduceEqDiff, Nat.reduceLeDiff, Nat.reduceAdd, Nat.reduceSub, Nat.reduceMul, reduceCtorEq, Int.reduceEq, Int.reduceLT, Int.reduceLE, Int.reduceNeg]
      exact s3
    | false =>
    by_cases hk3 : c.k = 3
    · have hk3' := eq_true hk3
      have hk5' : (c.k = 5) = False := eq_false (by omega)
      simp +contextual only [c3, d3, n1, n2, hk3', hk5', hA3, ↓wA, wC, Ex.ends, evR, oneOf, top, ↓reduceIte, Nat.reduceEqDiff, Nat.reduceLeDiff, Nat.reduceAdd, Nat.reduceSub, Nat.reduceMul, reduceCtorEq, Int.reduceEq, Int.reduceLT, Int.reduceLE, Int.reduceNeg]
      refine callK_intro (prims_ctr g3) ?_
      rintro x g4 ⟨rfl, hm4, hx4⟩
      have lk := look_prims hm4 c.s
      obtain ⟨k4, c4, d4⟩ := keep g3 g4 hx4 ⟨k3, c3, d3⟩
      have s4 := s3.trans hx4
      have hA4 := (Ha.ext s4).len
      have g4n := hx4.next
      by_cases hta : takes c.s = c.a.length
      · have hta' := eq_true hta
        simp +contextual only [c3, d3, c4, d4, n1, n2, hk3', hk5', hA3, hA4, lk, hta', askg_look, ↓wA, wC, Ex.ends, evR, oneOf, top, ↓reduceIte, Nat.reduceEqDiff, Nat.reduceLeDiff, Nat.reduceAdd, Nat.reduceSub, Nat.reduceMul, reduceCtorEq, Int.reduceEq, Int.reduceLT, Int.reduceLE, Int.reduceNeg]
        cases rt with
        | false =>
          simp +contextual only [c4, d4, n1, n2, ↓wA, wC, Ex.ends, evR, oneOf, top, ↓reduceIte, Nat.reduceEqDiff, Nat.reduceLeDiff, Nat.reduceAdd, Nat.reduceSub, Nat.reduceMul, reduceCtorEq, Int.reduceEq, Int.reduceLT, Int.reduceLE, Int.reduceNeg]
          refine callK_intro (contains_atom_ctr c.a va g4 (Ha.ext s4) (by omega)) ?_
          rintro x g5 ⟨rfl, hx5⟩
          have hf : ownP b c = c.a.all atB := by rw [hO]; grind
          simp +contextual only [hf, Bool.not_not, ↓wA, wC, Ex.ends, evR, oneOf, top, ↓reduceIte, Nat.reduceEqDiff, Nat.reduceLeDiff, Nat.reduceAdd, Nat.reduceSub, Nat.reduceMul, reduceCtorEq, Int.reduceEq, Int.reduceLT, Int.reduceLE, Int.reduceNeg]
          exact (s4).trans hx5
        | true =>
          simp +contextual only [c4, d4, n1, n2, ↓wA, wC, Ex.ends, evR, oneOf, top, ↓reduceIte, Nat.reduceEqDiff, Nat.reduceLeDiff, Nat.reduceAdd, Nat.reduceSub, Nat.reduceMul, reduceCtorEq, Int.reduceEq, Int.reduceLT, Int.reduceLE, Int.reduceNeg]
          refine callK_intro (tagged_ctr c _ g4 (H.ext s4) h1 h2) ?_
          rintro x g5 ⟨rfl, hx5⟩
          obtain ⟨k5, c5, d5⟩ := keep g4 g5 hx5 ⟨by have := k3; have := g4n; omega, c4, d4⟩
          have s5 := (s4).trans hx5
          cases htg : taggedP c with
          | false =>
            have hf : ownP b c = false := by rw [hO]; grind
            simp +contextual only [c5, d5, n1, n2, hf, ↓wA, wC, Ex.ends, evR, oneOf, top, ↓reduceIte, Nat.reduceEqDiff, Nat.reduceLeDiff, Nat.reduceAdd, Nat.reduceSub, Nat.reduceMul, reduceCtorEq, Int.reduceEq, Int.reduceLT, Int.reduceLE, Int.reduceNeg]
            exact s5
          | true =>
            simp +contextual only [c5, d5, n1, n2, ↓wA, wC, Ex.ends, evR, oneOf, top, ↓reduceIte, Nat.reduceEqDiff, Nat.reduceLeDiff, Nat.reduceAdd, Nat.reduceSub, Nat.reduceMul, reduceCtorEq, Int.reduceEq, Int.reduceLT, Int.reduceLE, Int.reduceNeg]
            refine callK_intro (contains_atom_ctr c.a va g5 (Ha.ext s5) (by omega)) ?_
            rintro x g6 ⟨rfl, hx6⟩
            have hf : ownP b c = c.a.all atB := by rw [hO]; grind
            simp +contextual only [hf, Bool.not_not, ↓wA, wC, Ex.ends, evR, oneOf, top, ↓reduceIte, Nat.reduceEqDiff, Nat.reduceLeDiff, Nat.reduceAdd, Nat.reduceSub, Nat.reduceMul, reduceCtorEq, Int.reduceEq, Int.reduceLT, Int.reduceLE, Int.reduceNeg]
            exact s5.trans hx6
      · have hta' := eq_false hta
        have hf : ownP b c = false := by rw [hO]; grind
        simp +contextual only [c3, d3, c4, d4, n1, n2, hk3', hk5', hA3, hA4, lk, hta', hf, askg_look, ↓wA, wC, Ex.ends, evR, oneOf, top, ↓reduceIte, Nat.reduceEqDiff, Nat.reduceLeDiff, Nat.reduceAdd, Nat.reduceSub, Nat.reduceMul, reduceCtorEq, Int.reduceEq, Int.reduceLT, Int.reduceLE, Int.reduceNeg]
        exact s4
    · have hk3' := eq_false hk3
      have g3n := hx3.next
      simp +contextual only [c3, d3, n1, n2, w3, hk3', hA3, askg_look, ↓wA, wC, Ex.ends, evR, oneOf, top, ↓reduceIte, Nat.reduceEqDiff, Nat.reduceLeDiff, Nat.reduceAdd, Nat.reduceSub, Nat.reduceMul, reduceCtorEq, Int.reduceEq, Int.reduceLT, Int.reduceLE, Int.reduceNeg]
      cases rt with
      | false =>
        simp +contextual only [c3, d3, n1, n2, ↓wA, wC, Ex.ends, evR, oneOf, top, ↓reduceIte, Nat.reduceEqDiff, Nat.reduceLeDiff, Nat.reduceAdd, Nat.reduceSub, Nat.reduceMul, reduceCtorEq, Int.reduceEq, Int.reduceLT, Int.reduceLE, Int.reduceNeg]
        refine callK_intro (contains_atom_ctr c.a va g3 (Ha.ext s3) (by omega)) ?_
        rintro x g5 ⟨rfl, hx5⟩
        have hf : ownP b c = c.a.all atB := by rw [hO]; grind
        simp +contextual only [hf, Bool.not_not, ↓wA, wC, Ex.ends, evR, oneOf, top, ↓reduceIte, Nat.reduceEqDiff, Nat.reduceLeDiff, Nat.reduceAdd, Nat.reduceSub, Nat.reduceMul, reduceCtorEq, Int.reduceEq, Int.reduceLT, Int.reduceLE, Int.reduceNeg]
        exact (s3).trans hx5
      | true =>
        simp +contextual only [c3, d3, n1, n2, ↓wA, wC, Ex.ends, evR, oneOf, top, ↓reduceIte, Nat.reduceEqDiff, Nat.reduceLeDiff, Nat.reduceAdd, Nat.reduceSub, Nat.reduceMul, reduceCtorEq, Int.reduceEq, Int.reduceLT, Int.reduceLE, Int.reduceNeg]
        refine callK_intro (tagged_ctr c _ g3 (H.ext s3) h1 h2) ?_
        rintro x g5 ⟨rfl, hx5⟩
        obtain ⟨k5, c5, d5⟩ := keep g3 g5 hx5 ⟨by have := k3; have := g3n; omega, c3, d3⟩
        have s5 := (s3).trans hx5
        cases htg : taggedP c with
        | false =>
          have hf : ownP b c = false := by rw [hO]; grind
          simp +contextual only [c5, d5, n1, n2, hf, ↓wA, wC, Ex.ends, evR, oneOf, top, ↓reduceIte, Nat.reduceEqDiff, Nat.reduceLeDiff, Nat.reduceAdd, Nat.reduceSub, Nat.reduceMul, reduceCtorEq, Int.reduceEq, Int.reduceLT, Int.reduceLE, Int.reduceNeg]
          exact s5
        | true =>
          simp +contextual only [c5, d5, n1, n2, ↓wA, wC, Ex.ends, evR, oneOf, top, ↓reduceIte, Nat.reduceEqDiff, Nat.reduceLeDiff, Nat.reduceAdd, Nat.reduceSub, Nat.reduceMul, reduceCtorEq, Int.reduceEq, Int.reduceLT, Int.reduceLE, Int.reduceNeg]
          refine callK_intro (contains_atom_ctr c.a va g5 (Ha.ext s5) (by omega)) ?_
          rintro x g6 ⟨rfl, hx6⟩
          have hf : ownP b c = c.a.all atB := by rw [hO]; grind
          simp +contextual only [hf, Bool.not_not, ↓wA, wC, Ex.ends, evR, oneOf, top, ↓reduceIte, Nat.reduceEqDiff, Nat.reduceLeDiff, Nat.reduceAdd, Nat.reduceSub, Nat.reduceMul, reduceCtorEq, Int.reduceEq, Int.reduceLT, Int.reduceLE, Int.reduceNeg]
          exact s5.trans hx6
end Go.Proofs.YtjbiefneffiogaaGreat

namespace Go.Proofs.YtjbiefneffiogaaGreat
open Go Am
theorem not1_ctr {c : Co} {u : List V} {g : Heap} {r : Bool} (H : CoIn g c u) (hc : ∀ g', Ext g g' → Ctr Tryz.prog 44 [.agg u] g' fun x h' => x = .bool r ∧ Ext g' h') : Ctr Tryz.prog 63 [.agg u] g fun x h' => x = .bool (!r) ∧ Ext g h' := by
  refine c63_ctr rfl (wpK_of ?_)
  unfold c63
  obtain ⟨va, vt, vl, rfl, _⟩ := H.open
  simp +contextual only [↓wA, wC, Ex.ends, evR, oneOf, top, ↓reduceIte, Nat.reduceEqDiff, Nat.reduceLeDiff, Nat.reduceAdd, Nat.reduceSub, Nat.reduceMul, reduceCtorEq, Int.reduceEq, Int.reduceLT, Int.reduceLE, Int.reduceNeg]
  have e0 := (Ext.refl g).new (.ofL [.int .i64 c.k, .int .i64 c.x, .int .i64 c.n, .str c.s, va, vt, vl] 0 false)
  refine callK_intro (hc _ e0) ?_
  rintro x h1 ⟨rfl, hx1⟩
  simp +contextual only [↓wA, wC, Ex.ends, evR, oneOf, top, ↓reduceIte, Nat.reduceEqDiff, Nat.reduceLeDiff, Nat.reduceAdd, Nat.reduceSub, Nat.reduceMul, reduceCtorEq, Int.reduceEq, Int.reduceLT, Int.reduceLE, Int.reduceNeg]
  exact e0.trans hx1
theorem index_co_ctr (l : List Co) (v : V) (h : Heap) (H : CosIn h l v) (hl : l.length ≤ 4611686018427387904)
    (hc : ∀ (i : Nat) (c : Co) (g : Heap) (u : List V), l[i]? = some c → Ext h g → CoIn g c u → Ctr Tryz.prog 44 [.agg u] g fun x h' => x = .bool (may ownP c) ∧ Ext g h') :
    Ctr Tryz.prog 127 [v, .func 63 []] h fun x h' => (∃ i : Int, x = .int .i64 i ∧ decide (0 ≤ i) = !mays ownP l) ∧ Ext h h' := by
  refine c127_ctr rfl (wpK_of ?_)
  unfold c127
  simp +contextual only [H.len, ↓wA, wC, Ex.ends, evR, oneOf, top, ↓reduceIte, Nat.reduceEqDiff, Nat.reduceLeDiff, Nat.reduceAdd, Nat.reduceSub, Nat.reduceMul, reduceCtorEq, Int.reduceEq, Int.reduceLT, Int.reduceLE, Int.reduceNeg]
  refine loopK_intro (fun r h' => Ext h h' ∧ r 0 = v ∧ r 1 = .func 63 [] ∧ r 7 = .int .i64 l.length ∧ ∃ i : Nat, r 8 = .int .i64 i ∧ i ≤ l.length ∧ mays ownP l = mays ownP (l.drop i)) (fun r h' => l.length - (r 8).toN) ?_ ?_
  · exact ⟨Ext.refl h, by simp only [↓wA, wC, ↓reduceIte, Nat.reduceEqDiff, reduceCtorEq], by simp only [↓wA, wC, ↓reduceIte, Nat.reduceEqDiff, reduceCtorEq], by simp only [↓wA, wC, ↓reduceIte, Nat.reduceEqDiff, reduceCtorEq], 0, by simp only [↓wA, wC, ↓reduceIte, Nat.reduceEqDiff, reduceCtorEq] <;> rfl, by omega, rfl⟩
  · rintro r h' ⟨hx, r0, r1, r7, i, r8, hi, hok⟩
    unfold c127l1
    by_cases hlt : i < l.length
    · have g0 : ((i : Int) < (l.length : Int)) = True := eq_true (by omega)
      obtain ⟨b, o, u, ia, hu, ld, _⟩ := (H.ext hx).at (k := .i64) hlt
      rw [List.drop_eq_getElem_cons hlt, mays] at hok
      have w := w_inc hlt hl
      simp +contextual only [r0, r1, r7, r8, g0, ia, ld, ↓wA, wC, Ex.ends, evR, oneOf, top, ↓reduceIte, Nat.reduceEqDiff, Nat.reduceLeDiff, Nat.reduceAdd, Nat.reduceSub, Nat.reduceMul, reduceCtorEq, Int.reduceEq, Int.reduceLT, Int.reduceLE, Int.reduceNeg]
      refine callK_intro (not1_ctr hu fun g' hg => hc i l[i] g' u (List.getElem?_eq_getElem hlt) (hx.trans hg) (hu.ext hg)) ?_
      rintro x h1 ⟨rfl, hx1⟩
      cases ha : may ownP l[i] with
      | true =>
        simp +contextual only [r0, r1, r7, r8, w, ↓wA, wC, Ex.ends, evR, oneOf, top, ↓reduceIte, Nat.reduceEqDiff, Nat.reduceLeDiff, Nat.reduceAdd, Nat.reduceSub, Nat.reduceMul, reduceCtorEq, Int.reduceEq, Int.reduceLT, Int.reduceLE, Int.reduceNeg]
        exact ⟨⟨hx.trans hx1, ⟨i + 1, rfl, hlt, by rw [hok, ha, Bool.true_and]⟩⟩, by omega⟩
      | false =>
        simp +contextual only [r0, r1, r7, r8, w, ↓wA, wC, Ex.ends, evR, oneOf, top, ↓reduceIte, Nat.reduceEqDiff, Nat.reduceLeDiff, Nat.reduceAdd, Nat.reduceSub, Nat.reduceMul, reduceCtorEq, Int.reduceEq, Int.reduceLT, Int.reduceLE, Int.reduceNeg]
        refine ⟨⟨i, rfl, ?_⟩, hx.trans hx1⟩
        rw [hok, ha]
        simp
    · have g0 : ((i : Int) < (l.length : Int)) = False := eq_false (by omega)
      rw [List.drop_eq_nil_of_le (by omega)] at hok
      simp +contextual only [r0, r1, r7, r8, g0, ↓wA, wC, Ex.ends, evR, oneOf, top, ↓reduceIte, Nat.reduceEqDiff, Nat.reduceLeDiff, Nat.reduceAdd, Nat.reduceSub, Nat.reduceMul, reduceCtorEq, Int.reduceEq, Int.reduceLT, Int.reduceLE, Int.reduceNeg]
      exact ⟨⟨-1, rfl, by rw [hok]; rfl⟩, hx⟩
theorem contains_co_ctr (l : List Co) (v : V) (h : Heap) (H : CosIn h l v) (hl : l.length ≤ 4611686018427387904)
    (hc : ∀ (i : Nat) (c : Co) (g : Heap) (u : List V), l[i]? = some c → Ext h g → CoIn g c u → Ctr Tryz.prog 44 [.agg u] g fun x h' => x = .bool (may ownP c) ∧ Ext g h') :
    Ctr Tryz.prog 62 [v, .func 63 []] h fun x h' => x = .bool (!mays ownP l) ∧ Ext h h' := by
  refine c62_ctr rfl (wpK_of ?_)
  unfold c62
  simp +contextual only [↓wA, wC, Ex.ends, evR, oneOf, top, ↓reduceIte, Nat.reduceEqDiff, Nat.reduceLeDiff, Nat.reduceAdd, Nat.reduceSub, Nat.reduceMul, reduceCtorEq, Int.reduceEq, Int.reduceLT, Int.reduceLE, Int.reduceNeg]
  refine callK_intro (index_co_ctr l v h H hl hc) ?_
  rintro x h1 ⟨⟨i, rfl, hi⟩, hx1⟩
  simp +contextual only [hi, ↓wA, wC, Ex.ends, evR, oneOf, top, ↓reduceIte, Nat.reduceEqDiff, Nat.reduceLeDiff, Nat.reduceAdd, Nat.reduceSub, Nat.reduceMul, reduceCtorEq, Int.reduceEq, Int.reduceLT, Int.reduceLE, Int.reduceNeg]
  exact hx1
end Go.Proofs.YtjbiefneffiogaaGreat

namespace Go.Proofs.YtjbiefneffiogaaGreat
open Go Am
mutual
def fit (m : Nat) : Co → Prop
  | .mk k x n s a t l => s.length ≤ m ∧ a.length ≤ m ∧ t.length ≤ m ∧ l.length ≤ m ∧ (∀ q ∈ a, q.s.length ≤ m) ∧ fits m l
def fits (m : Nat) : List Co → Prop
  | [] => True
  | c :: cs => fit m c ∧ fits m cs
end
theorem fits_at {m : Nat} : ∀ {l : List Co} {i : Nat} {c : Co}, fits m l → l[i]? = some c → fit m c
  | [], _, _, _, h => by simp at h
  | d :: l, 0, c, hf, h => by simp only [List.getElem?_cons_zero, Option.some.injEq] at h; subst h; exact hf.1
  | d :: l, i + 1, c, hf, h => fits_at hf.2 (by simpa using h)
theorem fit.kids {m : Nat} {c : Co} (h : fit m c) : c.s.length ≤ m ∧ c.a.length ≤ m ∧ c.t.length ≤ m ∧ c.l.length ≤ m ∧ fits m c.l := by
  cases c
  exact ⟨h.1, h.2.1, h.2.2.1, h.2.2.2.1, h.2.2.2.2.2⟩
mutual
theorem few_of_fit {m k : Nat} (hm : m ≤ k) : ∀ c : Co, fit m c → few k c
  | .mk _ _ _ _ _ _ l, h => ⟨Nat.le_trans h.2.2.2.1 hm, fews_of_fits hm l h.2.2.2.2.2⟩
theorem fews_of_fits {m k : Nat} (hm : m ≤ k) : ∀ l : List Co, fits m l → fews k l
  | [], _ => trivial
  | c :: cs, h => ⟨few_of_fit hm c h.1, fews_of_fits hm cs h.2⟩
end
theorem size_idx {l : List Co} {i : Nat} {c : Co} (h : l[i]? = some c) : size c ≤ sizes l := size_mem (List.mem_of_getElem? h)
theorem size_l (c : Co) : size c = 1 + sizes c.l := by cases c; rfl
theorem own_kid {c : Co} (h7 : c.k = 7) (h : ownP true c = true) : c.l.length = 1 := by
  have : ownR true c = true := by rw [← own_named, h, decide_eq_true h7]; rfl
  simp only [ownR, if_true, funR, Bool.and_eq_true] at this
  exact of_decide_eq_true this.2
theorem mayKid_eq (c : Co) (h : 0 < c.l.length) : mayKid ownP c = may ownP c.l[0] := by
  obtain ⟨k, x, n, s, a, t, l⟩ := c
  cases l with
  | nil => simp [Co.l] at h
  | cons d l => simp only [mayKid, mayHead, Co.l, List.getElem_cons_zero]
theorem may_ne8 {own : Bool → Co → Bool} {c : Co} (h : c.k ≠ 8) : may own c = (own false c && mays own c.l) := by
  obtain ⟨k, x, n, s, a, t, l⟩ := c
  simp only [Co.k] at h
  rw [may, if_neg h]
  rfl
theorem may_8 {own : Bool → Co → Bool} {c : Co} (h : c.k = 8) : may own c = (bareB c && decide (2 ≤ c.l.length) && mayRec own c.l) := by
  obtain ⟨k, x, n, s, a, t, l⟩ := c
  simp only [Co.k] at h
  rw [may, if_pos h]
  rfl
theorem mayRec_drop {own : Bool → Co → Bool} {l : List Co} {i : Nat} (h : i + 1 < l.length) : mayRec own (l.drop i) = ((decide (l[i].k = 7) && own true l[i]) && mayKid own l[i] && mayRec own (l.drop (i + 1))) := by
  rw [List.drop_eq_getElem_cons (by omega), List.drop_eq_getElem_cons h]
  rw [mayRec]
theorem mayRec_last {own : Bool → Co → Bool} {l : List Co} {i : Nat} (h : i + 1 = l.length) : mayRec own (l.drop i) = may own (l[i]'(by omega)) := by
  rw [List.drop_eq_getElem_cons (by omega), List.drop_eq_nil_of_le (by omega)]
  rw [mayRec]
set_option maxHeartbeats 2000000 in
theorem may_ctr : ∀ (N : Nat) (c : Co), size c ≤ N → fit 1048576 c → ∀ (vs : List V) (h : Heap), CoIn h c vs → Ctr Tryz.prog 44 [.agg vs] h fun x h' => x = .bool (may ownP c) ∧ Ext h h'
  | 0, c, hs, _, _, _, _ => by have := size_pos c; omega
  | N + 1, c, hs, hf, vs, h, H => by
    obtain ⟨f1, f2, f3, f4, f5⟩ := hf.kids
    have hsl := size_l c
    have kid : ∀ (i : Nat) (d : Co) (g : Heap) (u : List V), c.l[i]? = some d → Ext h g → CoIn g d u → Ctr Tryz.prog 44 [.agg u] g fun x h' => x = .bool (may ownP d) ∧ Ext g h' :=
      fun i d g u hi hg hu => may_ctr N d (by have := size_idx hi; omega) (fits_at f5 hi) u g hu
    obtain ⟨va, vt, vl, rfl, Ha, Ht, Hl⟩ := H.open
    refine c44_ctr rfl (wpK_of ?_)
    unfold c44
    have e0 : Ext h (h.new (.ofL [.int .i64 c.k, .int .i64 c.x, .int .i64 c.n, .str c.s, va, vt, vl] 0 false)) := (Ext.refl h).new _
    by_cases hk : c.k = 8
    · have hk' := eq_true hk
      have hA := (Ha.ext e0).len
      have hT := (Ht.ext e0).len
      have hL := (Hl.ext e0).len
      have hM := may_8 (own := ownP) hk
      by_cases hl0 : c.l.length = 0
      · have hf : may ownP c = false := by rw [hM, hl0]; simp
        have w0 : IntKind.i64.wrap (((0 : Nat) : Int) - 1) = -1 := by rw [wrap_i64 (by omega) (by omega)]; rfl
        have t0 : ((-1 : Int) < 1) = True := eq_true (by decide)
        rw [hl0] at hL
        simp +contextual only [hk', hA, hT, hL, w0, t0, hf, Bool.or_true, ↓wA, wC, Ex.ends, evR, oneOf, top, ↓reduceIte, Nat.reduceEqDiff, Nat.reduceLeDiff, Nat.reduceAdd, Nat.reduceSub, Nat.reduceMul, reduceCtorEq, Int.reduceEq, Int.reduceLT, Int.reduceLE, Int.reduceNeg]
        exact e0
      have w0 : IntKind.i64.wrap ((c.l.length : Int) - 1) = ((c.l.length - 1 : Nat) : Int) := by rw [wrap_i64 (by omega) (by omega)]; omega
      cases hbad : (!decide (c.x = 0) || !decide (c.n = 0) || !decide (c.s = []) || decide (0 < (c.t.length : Int)) || decide (0 < (c.a.length : Int)) || decide (((c.l.length - 1 : Nat) : Int) < 1)) with
      | true =>
        have hf : may ownP c = false := by
          rw [hM]
          have e1 : (c.t = []) ↔ c.t.length = 0 := by rw [List.length_eq_zero_iff]
          have e2 : (c.a = []) ↔ c.a.length = 0 := by rw [List.length_eq_zero_iff]
          simp only [bareB]
          grind
        simp +contextual only [hk', hA, hT, hL, w0, hbad, hf, ↓wA, wC, Ex.ends, evR, oneOf, top, ↓reduceIte, Nat.reduceEqDiff, Nat.reduceLeDiff, Nat.reduceAdd, Nat.reduceSub, Nat.reduceMul, reduceCtorEq, Int.reduceEq, Int.reduceLT, Int.reduceLE, Int.reduceNeg]
        exact e0
      | false =>
        have hgood : may ownP c = mayRec ownP c.l := by
          rw [hM]
          have e1 : (c.t = []) ↔ c.t.length = 0 := by rw [List.length_eq_zero_iff]
          have e2 : (c.a = []) ↔ c.a.length = 0 := by rw [List.length_eq_zero_iff]
          simp only [bareB]
          grind
        have hlen : 2 ≤ c.l.length := by
          have : ¬ (((c.l.length - 1 : Nat) : Int) < 1) := by
            intro q
            rw [decide_eq_true q, Bool.or_true] at hbad
            cases hbad
          omega
        obtain ⟨v', cut1, cut2⟩ := (Hl.ext e0).cut (k := .i64) (m := c.l.length - 1) (by omega)
        have hL' := cut2.len
        rw [List.length_take, Nat.min_eq_left (Nat.sub_le _ _)] at hL'
        simp +contextual only [hk', hA, hT, hL, w0, hbad, cut1, hL', ↓wA, wC, Ex.ends, evR, oneOf, top, ↓reduceIte, Nat.reduceEqDiff, Nat.reduceLeDiff, Nat.reduceAdd, Nat.reduceSub, Nat.reduceMul, reduceCtorEq, Int.reduceEq, Int.reduceLT, Int.reduceLE, Int.reduceNeg]
        refine loopK_intro (fun r h' => Ext h h' ∧ h'.get (pa h.next) = .ofL [.int .i64 c.k, .int .i64 c.x, .int .i64 c.n, .str c.s, va, vt, vl] 0 false ∧ h.next < h'.next ∧ r 1 = .ptr (pa h.next) 0 ∧ r 3 = .int .i64 ((c.l.length - 1 : Nat) : Int) ∧ r 52 = v' ∧ r 53 = .int .i64 ((c.l.length - 1 : Nat) : Int) ∧
          ∃ i : Nat, r 54 = .int .i64 i ∧ i ≤ c.l.length - 1 ∧ mayRec ownP c.l = mayRec ownP (c.l.drop i)) (fun r h' => c.l.length - (r 54).toN) ?_ ?_
        · exact ⟨e0, by simp only [↓wA, wC, ↓reduceIte, Nat.reduceEqDiff, reduceCtorEq], by rw [next_new]; omega, by simp only [↓wA, wC, ↓reduceIte, Nat.reduceEqDiff, reduceCtorEq], by simp only [↓wA, wC, ↓reduceIte, Nat.reduceEqDiff, reduceCtorEq], by simp only [↓wA, wC, ↓reduceIte, Nat.reduceEqDiff, reduceCtorEq], by simp only [↓wA, wC, ↓reduceIte, Nat.reduceEqDiff, reduceCtorEq], 0, by simp only [↓wA, wC, ↓reduceIte, Nat.reduceEqDiff, reduceCtorEq] <;> rfl, by omega, rfl⟩
        · rintro r h' ⟨hx, hb, hn, r1, r3, r52, r53, i, r54, hi, hok⟩
          unfold c44l1
          by_cases hlt : i < c.l.length - 1
          · have g0 : ((i : Int) < ((c.l.length - 1 : Nat) : Int)) = True := eq_true (by omega)
            have hlt2 : i < c.l.length := by omega
            have hlt3 : i < (c.l.take (c.l.length - 1)).length := by rw [List.length_take]; omega
            have e0x : Ext (h.new (.ofL [.int .i64 c.k, .int .i64 c.x, .int .i64 c.n, .str c.s, va, vt, vl] 0 false)) h' := ⟨by rw [next_new]; omega, fun b hb' => by
              by_cases q : b = pa h.next
              · subst q; rw [hb, get_new_self]
              · have ho : Old h b := by
                  unfold Old at hb' ⊢
                  rw [next_new] at hb'
                  have : unPa b ≠ h.next := fun e => q (by rw [← e, pa_unPa])
                  omega
                rw [hx.get _ ho, get_new, if_neg (fun e => q e.symm)]⟩
            obtain ⟨b, o, u, ia, hu, ld, _⟩ := (cut2.ext e0x).at (k := .i64) hlt3
            rw [List.getElem_take] at hu
            rw [mayRec_drop (by omega)] at hok
            generalize hfd : c.l[i] = f at *
            have hfi : c.l[i]? = some f := by rw [List.getElem?_eq_getElem hlt2, hfd]
            obtain ⟨fa, ft, fl, rfl, Fa, Ft, Fl⟩ := hu.open
            have w := w_inc hlt2 (by omega)
            have ff := fits_at f5 hfi
            obtain ⟨ff1, ff2, ff3, ff4, ff5⟩ := ff.kids
            have o1 := Fa.one.1
            have o2 := Ft.one.1
            have o3 := Fl.one.1
            have nn1 : (h'.next = h.next) = False := eq_false (by omega)
            have nn2 : (h.next = h'.next) = False := eq_false (by omega)
            by_cases h7 : f.k = 7
            · have h7' := eq_true h7
              simp +contextual only [r1, r3, r52, r53, r54, g0, ia, ld, h7', o1, o2, o3, Bool.and_self, ↓wA, wC, Ex.ends, evR, oneOf, top, ↓reduceIte, Nat.reduceEqDiff, Nat.reduceLeDiff, Nat.reduceAdd, Nat.reduceSub, Nat.reduceMul, reduceCtorEq, Int.reduceEq, Int.reduceLT, Int.reduceLE, Int.reduceNeg]
              have hx1 : Ext h' ((h'.new (.ofL [.int .i64 0, .int .i64 0, .int .i64 0, .str [], .nilslice, .nilslice, .nilslice] 0 false)).set (pa h'.next) (.ofL [.int .i64 f.k, .int .i64 f.x, .int .i64 f.n, .str f.s, fa, ft, fl] 0 false)) := ((Ext.refl h').new _).set (Nat.le_refl _) _
              have gb : ((h'.new (.ofL [.int .i64 0, .int .i64 0, .int .i64 0, .str [], .nilslice, .nilslice, .nilslice] 0 false)).set (pa h'.next) (.ofL [.int .i64 f.k, .int .i64 f.x, .int .i64 f.n, .str f.s, fa, ft, fl] 0 false)).get (pa h'.next) = .ofL [.int .i64 f.k, .int .i64 f.x, .int .i64 f.n, .str f.s, fa, ft, fl] 0 false := by rw [get_set, if_pos rfl]
              have gn : ((h'.new (.ofL [.int .i64 0, .int .i64 0, .int .i64 0, .str [], .nilslice, .nilslice, .nilslice] 0 false)).set (pa h'.next) (.ofL [.int .i64 f.k, .int .i64 f.x, .int .i64 f.n, .str f.s, fa, ft, fl] 0 false)).next = h'.next + 1 := by rw [next_set, next_new]
              generalize ((h'.new (.ofL [.int .i64 0, .int .i64 0, .int .i64 0, .str [], .nilslice, .nilslice, .nilslice] 0 false)).set (pa h'.next) (.ofL [.int .i64 f.k, .int .i64 f.x, .int .i64 f.n, .str f.s, fa, ft, fl] 0 false)) = G1 at *
              refine callK_intro (own_ctr true f _ G1 (hu.ext hx1) (by omega) (by omega) (by omega)) ?_
              rintro x g2 ⟨rfl, hx2⟩
              have hx12 := hx1.trans hx2
              have gb2 : g2.get (pa h'.next) = .ofL [.int .i64 f.k, .int .i64 f.x, .int .i64 f.n, .str f.s, fa, ft, fl] 0 false := by rw [hx2.get _ (old_lt (by omega))]; exact gb
              have hb2 : g2.get (pa h.next) = .ofL [.int .i64 c.k, .int .i64 c.x, .int .i64 c.n, .str c.s, va, vt, vl] 0 false := by rw [hx12.get _ (old_lt (by omega))]; exact hb
              cases ho : ownP true f with
              | false =>
                have hf0 : may ownP c = false := by rw [hgood, hok, ho, Bool.and_false, Bool.false_and, Bool.false_and]
                simp +contextual only [gb2, hf0, nn1, nn2, ↓wA, wC, Ex.ends, evR, oneOf, top, ↓reduceIte, Nat.reduceEqDiff, Nat.reduceLeDiff, Nat.reduceAdd, Nat.reduceSub, Nat.reduceMul, reduceCtorEq, Int.reduceEq, Int.reduceLT, Int.reduceLE, Int.reduceNeg]
                exact hx.trans hx12
              | true =>
                have hl1 := own_kid h7 ho
                obtain ⟨b', o', u', ia', hu', ld', _⟩ := (Fl.ext hx12).at (k := .i64) (i := 0) (by omega)
                have hg0 : f.l[0]? = some f.l[0] := List.getElem?_eq_getElem (by omega)
                have ia0 : iaV 7 fl (.int .i64 0) = some (.ptr b' o') := by simpa using ia'
                have ld0 : ldnB 7 (g2.get b') o' = some (.agg u') := by simpa using ld'
                simp +contextual only [gb2, nn1, nn2, ia0, ld0, ↓wA, wC, Ex.ends, evR, oneOf, top, ↓reduceIte, Nat.reduceEqDiff, Nat.reduceLeDiff, Nat.reduceAdd, Nat.reduceSub, Nat.reduceMul, reduceCtorEq, Int.reduceEq, Int.reduceLT, Int.reduceLE, Int.reduceNeg]
                refine callK_intro (may_ctr N f.l[0] (by have := size_idx hfi; have := size_idx hg0; have := size_l f; omega) (fits_at ff5 hg0) u' g2 hu') ?_
                rintro x g3 ⟨rfl, hx3⟩
                have hx13 := hx12.trans hx3
                rw [mayKid_eq f (by omega)] at hok
                cases hm : may ownP f.l[0] with
                | false =>
                  have hf0 : may ownP c = false := by rw [hgood, hok, hm, Bool.and_false, Bool.false_and]
                  simp +contextual only [hf0, ↓wA, wC, Ex.ends, evR, oneOf, top, ↓reduceIte, Nat.reduceEqDiff, Nat.reduceLeDiff, Nat.reduceAdd, Nat.reduceSub, Nat.reduceMul, reduceCtorEq, Int.reduceEq, Int.reduceLT, Int.reduceLE, Int.reduceNeg]
                  exact hx.trans hx13
                | true =>
                  simp +contextual only [r1, r3, r52, r53, r54, w, ↓wA, wC, Ex.ends, evR, oneOf, top, ↓reduceIte, Nat.reduceEqDiff, Nat.reduceLeDiff, Nat.reduceAdd, Nat.reduceSub, Nat.reduceMul, reduceCtorEq, Int.reduceEq, Int.reduceLT, Int.reduceLE, Int.reduceNeg]
                  exact ⟨⟨hx.trans hx13, by rw [hx13.get _ (old_lt (by omega))]; exact hb, by have := hx13.next; omega, ⟨i + 1, rfl, by omega, by rw [hok, decide_eq_true h7, ho, hm]; rfl⟩⟩, by omega⟩
            · have h7' := eq_false h7
              have hf0 : may ownP c = false := by rw [hgood, hok, decide_eq_false h7]; rfl
              simp +contextual only [r1, r3, r52, r53, r54, g0, ia, ld, h7', hf0, o1, o2, o3, Bool.and_self, ↓wA, wC, Ex.ends, evR, oneOf, top, ↓reduceIte, Nat.reduceEqDiff, Nat.reduceLeDiff, Nat.reduceAdd, Nat.reduceSub, Nat.reduceMul, reduceCtorEq, Int.reduceEq, Int.reduceLT, Int.reduceLE, Int.reduceNeg]
              exact (hx.new _).set (i := h'.next) (by have := hx.next; omega) _
          · have g0 : ((i : Int) < ((c.l.length - 1 : Nat) : Int)) = False := eq_false (by omega)
            obtain rfl : i = c.l.length - 1 := by omega
            obtain ⟨b, o, u, ia, hu, ld, _⟩ := (Hl.ext hx).at (k := .i64) (i := c.l.length - 1) (by omega)
            simp +contextual only [r1, r3, r52, r53, r54, g0, hb, ia, ld, ↓wA, wC, Ex.ends, evR, oneOf, top, ↓reduceIte, Nat.reduceEqDiff, Nat.reduceLeDiff, Nat.reduceAdd, Nat.reduceSub, Nat.reduceMul, reduceCtorEq, Int.reduceEq, Int.reduceLT, Int.reduceLE, Int.reduceNeg]
            refine callK_intro (kid (c.l.length - 1) _ h' u (List.getElem?_eq_getElem (by omega)) hx hu) ?_
            rintro x g2 ⟨rfl, hx2⟩
            have hf0 : may ownP c = may ownP (c.l[c.l.length - 1]'(by omega)) := by rw [hgood, hok, mayRec_last (by omega)]
            simp +contextual only [hf0, ↓wA, wC, Ex.ends, evR, oneOf, top, ↓reduceIte, Nat.reduceEqDiff, Nat.reduceLeDiff, Nat.reduceAdd, Nat.reduceSub, Nat.reduceMul, reduceCtorEq, Int.reduceEq, Int.reduceLT, Int.reduceLE, Int.reduceNeg]
            exact hx.trans hx2
    · have hk' := eq_false hk
      simp +contextual only [hk', ↓wA, wC, Ex.ends, evR, oneOf, top, ↓reduceIte, Nat.reduceEqDiff, Nat.reduceLeDiff, Nat.reduceAdd, Nat.reduceSub, Nat.reduceMul, reduceCtorEq, Int.reduceEq, Int.reduceLT, Int.reduceLE, Int.reduceNeg]
      refine callK_intro (own_ctr false c _ _ (H.ext e0) (by omega) (by omega) (by omega)) ?_
      rintro x g1 ⟨rfl, hx1⟩
      have hx := e0.trans hx1
      have hb : g1.get (pa h.next) = .ofL [.int .i64 c.k, .int .i64 c.x, .int .i64 c.n, .str c.s, va, vt, vl] 0 false := by rw [hx1.get _ (old_lt (by rw [next_new]; omega)), get_new_self]
      rw [may_ne8 hk]
      cases ho : ownP false c with
      | false =>
        simp +contextual only [Bool.false_and, ↓wA, wC, Ex.ends, evR, oneOf, top, ↓reduceIte, Nat.reduceEqDiff, Nat.reduceLeDiff, Nat.reduceAdd, Nat.reduceSub, Nat.reduceMul, reduceCtorEq, Int.reduceEq, Int.reduceLT, Int.reduceLE, Int.reduceNeg]
        exact hx
      | true =>
        simp +contextual only [hb, ↓wA, wC, Ex.ends, evR, oneOf, top, ↓reduceIte, Nat.reduceEqDiff, Nat.reduceLeDiff, Nat.reduceAdd, Nat.reduceSub, Nat.reduceMul, reduceCtorEq, Int.reduceEq, Int.reduceLT, Int.reduceLE, Int.reduceNeg]
        refine callK_intro (contains_co_ctr c.l vl g1 (Hl.ext hx) (by omega) fun i d g u hi hg hu => kid i d g u hi (hx.trans hg) hu) ?_
        rintro x g2 ⟨rfl, hx2⟩
        simp +contextual only [Bool.not_not, Bool.true_and, ↓wA, wC, Ex.ends, evR, oneOf, top, ↓reduceIte, Nat.reduceEqDiff, Nat.reduceLeDiff, Nat.reduceAdd, Nat.reduceSub, Nat.reduceMul, reduceCtorEq, Int.reduceEq, Int.reduceLT, Int.reduceLE, Int.reduceNeg]
        exact hx.trans hx2
end Go.Proofs.YtjbiefneffiogaaGreat

namespace Go.Proofs.YtjbiefneffiogaaGreat
open Go Am
theorem rvariable_pure (n : Int) (h : Heap) : CallsV Tryz.prog 130 [.int .i64 n] h (.bool (varB n)) h := by
  refine pure_calls (c130_ctr rfl (wpK_of ?_))
  unfold c130
  simp +contextual only [↓wA, wC, Ex.ends, evR, oneOf, top, ↓reduceIte, Nat.reduceEqDiff, Nat.reduceLeDiff, Nat.reduceAdd, Nat.reduceSub, Nat.reduceMul, reduceCtorEq, Int.reduceEq, Int.reduceLT, Int.reduceLE, Int.reduceNeg]
  rfl
theorem rnumber_pure (n : Int) (h : Heap) : CallsV Tryz.prog 163 [.int .i64 n] h (.bool (numB n)) h := by
  refine pure_calls (c163_ctr rfl (wpK_of ?_))
  unfold c163
  simp +contextual only [↓wA, wC, Ex.ends, evR, oneOf, top, ↓reduceIte, Nat.reduceEqDiff, Nat.reduceLeDiff, Nat.reduceAdd, Nat.reduceSub, Nat.reduceMul, reduceCtorEq, Int.reduceEq, Int.reduceLT, Int.reduceLE, Int.reduceNeg]
  rfl
theorem ratom_ctr (a : At) (h : Heap) : Ctr Tryz.prog 162 [.agg a.enc] h fun x h' => x = .bool (atB a) ∧ Ext h h' := by
  obtain ⟨k, n, s⟩ := a
  refine c162_ctr rfl (wpK_of ?_)
  unfold c162
  have hx : Ext h (h.new (.ofL (At.enc ⟨k, n, s⟩) 0 false)) := (Ext.refl h).new _
  have he : At.enc ⟨k, n, s⟩ = [.int .i64 k, .int .i64 n, .str s] := rfl
  rw [he] at hx ⊢
  by_cases h1 : k = 1
  · subst h1
    simp +contextual only [↓wA, wC, Ex.ends, evR, oneOf, top, ↓reduceIte, Nat.reduceEqDiff, Nat.reduceLeDiff, Nat.reduceAdd, Nat.reduceSub, Nat.reduceMul, reduceCtorEq, Int.reduceEq, Int.reduceLT, Int.reduceLE, Int.reduceNeg]
    refine callK_pure (rvariable_pure _ _) ?_
    simp +contextual only [↓wA, wC, Ex.ends, evR, oneOf, top, ↓reduceIte, Nat.reduceEqDiff, Nat.reduceLeDiff, Nat.reduceAdd, Nat.reduceSub, Nat.reduceMul, reduceCtorEq, Int.reduceEq, Int.reduceLT, Int.reduceLE, Int.reduceNeg]
    refine ⟨?_, hx⟩
    simp [atB]
  by_cases h2 : k = 2
  · subst h2
    simp +contextual only [↓wA, wC, Ex.ends, evR, oneOf, top, ↓reduceIte, Nat.reduceEqDiff, Nat.reduceLeDiff, Nat.reduceAdd, Nat.reduceSub, Nat.reduceMul, reduceCtorEq, Int.reduceEq, Int.reduceLT, Int.reduceLE, Int.reduceNeg]
    refine callK_pure (rnumber_pure _ _) ?_
    simp +contextual only [↓wA, wC, Ex.ends, evR, oneOf, top, ↓reduceIte, Nat.reduceEqDiff, Nat.reduceLeDiff, Nat.reduceAdd, Nat.reduceSub, Nat.reduceMul, reduceCtorEq, Int.reduceEq, Int.reduceLT, Int.reduceLE, Int.reduceNeg]
    refine ⟨?_, hx⟩
    simp [atB]
  by_cases h3 : k = 3
  · subst h3
    simp +contextual only [↓wA, wC, Ex.ends, evR, oneOf, top, ↓reduceIte, Nat.reduceEqDiff, Nat.reduceLeDiff, Nat.reduceAdd, Nat.reduceSub, Nat.reduceMul, reduceCtorEq, Int.reduceEq, Int.reduceLT, Int.reduceLE, Int.reduceNeg]
    refine ⟨?_, hx⟩
    simp [atB]
    congr 1
    rw [decide_eq_decide]
    omega
  · have h1' := eq_false h1
    have h2' := eq_false h2
    have h3' := eq_false h3
    simp +contextual only [h1', h2', h3', ↓wA, wC, Ex.ends, evR, oneOf, top, ↓reduceIte, Nat.reduceEqDiff, Nat.reduceLeDiff, Nat.reduceAdd, Nat.reduceSub, Nat.reduceMul, reduceCtorEq, Int.reduceEq, Int.reduceLT, Int.reduceLE, Int.reduceNeg]
    refine ⟨?_, hx⟩
    simp [atB, h1, h2, h3]
theorem ratoms_ctr (l : List At) (n : Int) (v : V) (h : Heap) (H : SlV h 3 v l.length (atsV l)) (hl : l.length ≤ 4611686018427387904) :
    Ctr Tryz.prog 131 [v, .int .i64 n] h fun x h' => x = .bool (atomsB l n) ∧ Ext h h' := by
  refine c131_ctr rfl (wpK_of ?_)
  unfold c131
  simp +contextual only [↓wA, wC, Ex.ends, evR, oneOf, top, ↓reduceIte, Nat.reduceEqDiff, Nat.reduceLeDiff, Nat.reduceAdd, Nat.reduceSub, Nat.reduceMul, reduceCtorEq, Int.reduceEq, Int.reduceLT, Int.reduceLE, Int.reduceNeg]
  refine loopK_intro (fun r h' => Ext h h' ∧ r 0 = v ∧ r 1 = .int .i64 n ∧ ∃ i : Nat, r 5 = .int .i64 i ∧ i ≤ l.length ∧ l.all atB = (l.drop i).all atB) (fun r h' => l.length - (r 5).toN) ?_ ?_
  · exact ⟨Ext.refl h, by simp only [↓wA, wC, ↓reduceIte, Nat.reduceEqDiff, reduceCtorEq], by simp only [↓wA, wC, ↓reduceIte, Nat.reduceEqDiff, reduceCtorEq], 0, by simp only [↓wA, wC, ↓reduceIte, Nat.reduceEqDiff, reduceCtorEq] <;> rfl, by omega, rfl⟩
  · rintro r h' ⟨hx, r0, r1, i, r5, hi, hok⟩
    unfold c131l1
    have hL := (H.ext hx).len
    by_cases hlt : i < l.length
    · have g0 : ((i : Int) < (l.length : Int)) = True := eq_true (by omega)
      obtain ⟨b, o, ia, ld, _⟩ := ats_at (H.ext hx) (k := .i64) hlt
      rw [List.drop_eq_getElem_cons hlt, List.all_cons] at hok
      have w := w_inc hlt hl
      simp +contextual only [r0, r1, r5, hL, g0, ia, ld, ↓wA, wC, Ex.ends, evR, oneOf, top, ↓reduceIte, Nat.reduceEqDiff, Nat.reduceLeDiff, Nat.reduceAdd, Nat.reduceSub, Nat.reduceMul, reduceCtorEq, Int.reduceEq, Int.reduceLT, Int.reduceLE, Int.reduceNeg]
      refine callK_intro (ratom_ctr l[i] h') ?_
      rintro x h1 ⟨rfl, hx1⟩
      cases ha : atB l[i] with
      | true =>
        simp +contextual only [r0, r1, r5, w, ↓wA, wC, Ex.ends, evR, oneOf, top, ↓reduceIte, Nat.reduceEqDiff, Nat.reduceLeDiff, Nat.reduceAdd, Nat.reduceSub, Nat.reduceMul, reduceCtorEq, Int.reduceEq, Int.reduceLT, Int.reduceLE, Int.reduceNeg]
        exact ⟨⟨hx.trans hx1, ⟨i + 1, rfl, hlt, by rw [hok, ha, Bool.true_and]⟩⟩, by omega⟩
      | false =>
        have hf : atomsB l n = false := by rw [atomsB, hok, ha, Bool.false_and, Bool.false_and]
        simp +contextual only [hf, ↓wA, wC, Ex.ends, evR, oneOf, top, ↓reduceIte, Nat.reduceEqDiff, Nat.reduceLeDiff, Nat.reduceAdd, Nat.reduceSub, Nat.reduceMul, reduceCtorEq, Int.reduceEq, Int.reduceLT, Int.reduceLE, Int.reduceNeg]
        exact hx.trans hx1
    · have g0 : ((i : Int) < (l.length : Int)) = False := eq_false (by omega)
      rw [List.drop_eq_nil_of_le (by omega)] at hok
      simp +contextual only [r0, r1, r5, hL, g0, ↓wA, wC, Ex.ends, evR, oneOf, top, ↓reduceIte, Nat.reduceEqDiff, Nat.reduceLeDiff, Nat.reduceAdd, Nat.reduceSub, Nat.reduceMul, reduceCtorEq, Int.reduceEq, Int.reduceLT, Int.reduceLE, Int.reduceNeg]
      refine ⟨?_, hx⟩
      rw [atomsB, hok]
      rfl
set_option maxHeartbeats 2000000 in
theorem takes_pure (s : List UInt8) (h : Heap) : CallsV Tryz.prog 132 [.str s] h (.int .i64 (takes s)) h := by
  refine pure_calls (c132_ctr rfl (wpK_of ?_))
  unfold c132
  by_cases h1 : s = [97, 100, 100]
  · have e1 := eq_true h1
    have ht : takes s = 2 := by rw [h1]; rfl
    simp +contextual only [e1, ht, ↓wA, wC, Ex.ends, evR, oneOf, top, ↓reduceIte, Nat.reduceEqDiff, Nat.reduceLeDiff, Nat.reduceAdd, Nat.reduceSub, Nat.reduceMul, reduceCtorEq, Int.reduceEq, Int.reduceLT, Int.reduceLE, Int.reduceNeg]
  have e1 := eq_false h1
  by_cases h2 : s = [115, 117, 98]
  · have e2 := eq_true h2
    have ht : takes s = 2 := by rw [h2]; rfl
    simp +contextual only [e1, e2, ht, ↓wA, wC, Ex.ends, evR, oneOf, top, ↓reduceIte, Nat.reduceEqDiff, Nat.reduceLeDiff, Nat.reduceAdd, Nat.reduceSub, Nat.reduceMul, reduceCtorEq, Int.reduceEq, Int.reduceLT, Int.reduceLE, Int.reduceNeg]
  have e2 := eq_false h2
  by_cases h3 : s = [109, 117, 108]
  · have e3 := eq_true h3
    have ht : takes s = 2 := by rw [h3]; rfl
    simp +contextual only [e1, e2, e3, ht, ↓wA, wC, Ex.ends, evR, oneOf, top, ↓reduceIte, Nat.reduceEqDiff, Nat.reduceLeDiff, Nat.reduceAdd, Nat.reduceSub, Nat.reduceMul, reduceCtorEq, Int.reduceEq, Int.reduceLT, Int.reduceLE, Int.reduceNeg]
  have e3 := eq_false h3
  by_cases h4 : s = [100, 105, 118]
  · have e4 := eq_true h4
    have ht : takes s = 2 := by rw [h4]; rfl
    simp +contextual only [e1, e2, e3, e4, ht, ↓wA, wC, Ex.ends, evR, oneOf, top, ↓reduceIte, Nat.reduceEqDiff, Nat.reduceLeDiff, Nat.reduceAdd, Nat.reduceSub, Nat.reduceMul, reduceCtorEq, Int.reduceEq, Int.reduceLT, Int.reduceLE, Int.reduceNeg]
  have e4 := eq_false h4
  by_cases h5 : s = [109, 111, 100]
  · have e5 := eq_true h5
    have ht : takes s = 2 := by rw [h5]; rfl
    simp +contextual only [e1, e2, e3, e4, e5, ht, ↓wA, wC, Ex.ends, evR, oneOf, top, ↓reduceIte, Nat.reduceEqDiff, Nat.reduceLeDiff, Nat.reduceAdd, Nat.reduceSub, Nat.reduceMul, reduceCtorEq, Int.reduceEq, Int.reduceLT, Int.reduceLE, Int.reduceNeg]
  have e5 := eq_false h5
  by_cases h6 : s = [101, 113]
  · have e6 := eq_true h6
    have ht : takes s = 2 := by rw [h6]; rfl
    simp +contextual only [e1, e2, e3, e4, e5, e6, ht, ↓wA, wC, Ex.ends, evR, oneOf, top, ↓reduceIte, Nat.reduceEqDiff, Nat.reduceLeDiff, Nat.reduceAdd, Nat.reduceSub, Nat.reduceMul, reduceCtorEq, Int.reduceEq, Int.reduceLT, Int.reduceLE, Int.reduceNeg]
  have e6 := eq_false h6
  by_cases h7 : s = [108, 116]
  · have e7 := eq_true h7
    have ht : takes s = 2 := by rw [h7]; rfl
    simp +contextual only [e1, e2, e3, e4, e5, e6, e7, ht, ↓wA, wC, Ex.ends, evR, oneOf, top, ↓reduceIte, Nat.reduceEqDiff, Nat.reduceLeDiff, Nat.reduceAdd, Nat.reduceSub, Nat.reduceMul, reduceCtorEq, Int.reduceEq, Int.reduceLT, Int.reduceLE, Int.reduceNeg]
  have e7 := eq_false h7
  by_cases h8 : s = [108, 101]
  · have e8 := eq_true h8
    have ht : takes s = 2 := by rw [h8]; rfl
    simp +contextual only [e1, e2, e3, e4, e5, e6, e7, e8, ht, ↓wA, wC, Ex.ends, evR, oneOf, top, ↓reduceIte, Nat.reduceEqDiff, Nat.reduceLeDiff, Nat.reduceAdd, Nat.reduceSub, Nat.reduceMul, reduceCtorEq, Int.reduceEq, Int.reduceLT, Int.reduceLE, Int.reduceNeg]
  have e8 := eq_false h8
  by_cases h9 : s = [98, 121, 116, 101]
  · have e9 := eq_true h9
    have ht : takes s = 2 := by rw [h9]; rfl
    simp +contextual only [e1, e2, e3, e4, e5, e6, e7, e8, e9, ht, ↓wA, wC, Ex.ends, evR, oneOf, top, ↓reduceIte, Nat.reduceEqDiff, Nat.reduceLeDiff, Nat.reduceAdd, Nat.reduceSub, Nat.reduceMul, reduceCtorEq, Int.reduceEq, Int.reduceLT, Int.reduceLE, Int.reduceNeg]
  have e9 := eq_false h9
  by_cases h10 : s = [106, 111, 105, 110]
  · have e10 := eq_true h10
    have ht : takes s = 2 := by rw [h10]; rfl
    simp +contextual only [e1, e2, e3, e4, e5, e6, e7, e8, e9, e10, ht, ↓wA, wC, Ex.ends, evR, oneOf, top, ↓reduceIte, Nat.reduceEqDiff, Nat.reduceLeDiff, Nat.reduceAdd, Nat.reduceSub, Nat.reduceMul, reduceCtorEq, Int.reduceEq, Int.reduceLT, Int.reduceLE, Int.reduceNeg]
  have e10 := eq_false h10
  by_cases h11 : s = [115, 101, 116]
  · have e11 := eq_true h11
    have ht : takes s = 2 := by rw [h11]; rfl
    simp +contextual only [e1, e2, e3, e4, e5, e6, e7, e8, e9, e10, e11, ht, ↓wA, wC, Ex.ends, evR, oneOf, top, ↓reduceIte, Nat.reduceEqDiff, Nat.reduceLeDiff, Nat.reduceAdd, Nat.reduceSub, Nat.reduceMul, reduceCtorEq, Int.reduceEq, Int.reduceLT, Int.reduceLE, Int.reduceNeg]
  have e11 := eq_false h11
  by_cases h12 : s = [110, 101, 103]
  · have e12 := eq_true h12
    have ht : takes s = 1 := by rw [h12]; rfl
    simp +contextual only [e1, e2, e3, e4, e5, e6, e7, e8, e9, e10, e11, e12, ht, ↓wA, wC, Ex.ends, evR, oneOf, top, ↓reduceIte, Nat.reduceEqDiff, Nat.reduceLeDiff, Nat.reduceAdd, Nat.reduceSub, Nat.reduceMul, reduceCtorEq, Int.reduceEq, Int.reduceLT, Int.reduceLE, Int.reduceNeg]
  have e12 := eq_false h12
  by_cases h13 : s = [103, 101, 116, 99]
  · have e13 := eq_true h13
    have ht : takes s = 1 := by rw [h13]; rfl
    simp +contextual only [e1, e2, e3, e4, e5, e6, e7, e8, e9, e10, e11, e12, e13, ht, ↓wA, wC, Ex.ends, evR, oneOf, top, ↓reduceIte, Nat.reduceEqDiff, Nat.reduceLeDiff, Nat.reduceAdd, Nat.reduceSub, Nat.reduceMul, reduceCtorEq, Int.reduceEq, Int.reduceLT, Int.reduceLE, Int.reduceNeg]
  have e13 := eq_false h13
  by_cases h14 : s = [112, 117, 116, 99]
  · have e14 := eq_true h14
    have ht : takes s = 1 := by rw [h14]; rfl
    simp +contextual only [e1, e2, e3, e4, e5, e6, e7, e8, e9, e10, e11, e12, e13, e14, ht, ↓wA, wC, Ex.ends, evR, oneOf, top, ↓reduceIte, Nat.reduceEqDiff, Nat.reduceLeDiff, Nat.reduceAdd, Nat.reduceSub, Nat.reduceMul, reduceCtorEq, Int.reduceEq, Int.reduceLT, Int.reduceLE, Int.reduceNeg]
  have e14 := eq_false h14
  by_cases h15 : s = [112, 117, 116, 115]
  · have e15 := eq_true h15
    have ht : takes s = 1 := by rw [h15]; rfl
    simp +contextual only [e1, e2, e3, e4, e5, e6, e7, e8, e9, e10, e11, e12, e13, e14, e15, ht, ↓wA, wC, Ex.ends, evR, oneOf, top, ↓reduceIte, Nat.reduceEqDiff, Nat.reduceLeDiff, Nat.reduceAdd, Nat.reduceSub, Nat.reduceMul, reduceCtorEq, Int.reduceEq, Int.reduceLT, Int.reduceLE, Int.reduceNeg]
  have e15 := eq_false h15
  by_cases h16 : s = [115, 105, 122, 101]
  · have e16 := eq_true h16
    have ht : takes s = 1 := by rw [h16]; rfl
    simp +contextual only [e1, e2, e3, e4, e5, e6, e7, e8, e9, e10, e11, e12, e13, e14, e15, e16, ht, ↓wA, wC, Ex.ends, evR, oneOf, top, ↓reduceIte, Nat.reduceEqDiff, Nat.reduceLeDiff, Nat.reduceAdd, Nat.reduceSub, Nat.reduceMul, reduceCtorEq, Int.reduceEq, Int.reduceLT, Int.reduceLE, Int.reduceNeg]
  have e16 := eq_false h16
  by_cases h17 : s = [99, 104, 114]
  · have e17 := eq_true h17
    have ht : takes s = 1 := by rw [h17]; rfl
    simp +contextual only [e1, e2, e3, e4, e5, e6, e7, e8, e9, e10, e11, e12, e13, e14, e15, e16, e17, ht, ↓wA, wC, Ex.ends, evR, oneOf, top, ↓reduceIte, Nat.reduceEqDiff, Nat.reduceLeDiff, Nat.reduceAdd, Nat.reduceSub, Nat.reduceMul, reduceCtorEq, Int.reduceEq, Int.reduceLT, Int.reduceLE, Int.reduceNeg]
  have e17 := eq_false h17
  by_cases h18 : s = [99, 117, 116]
  · have e18 := eq_true h18
    have ht : takes s = 3 := by rw [h18]; rfl
    simp +contextual only [e1, e2, e3, e4, e5, e6, e7, e8, e9, e10, e11, e12, e13, e14, e15, e16, e17, e18, ht, ↓wA, wC, Ex.ends, evR, oneOf, top, ↓reduceIte, Nat.reduceEqDiff, Nat.reduceLeDiff, Nat.reduceAdd, Nat.reduceSub, Nat.reduceMul, reduceCtorEq, Int.reduceEq, Int.reduceLT, Int.reduceLE, Int.reduceNeg]
  have e18 := eq_false h18
  have ht : takes s = 0 := by
    rw [takes, if_neg (by simp only [prims2, List.mem_cons, List.not_mem_nil, or_false, not_or]; exact ⟨h1, h2, h3, h4, h5, h6, h7, h8, h9, h10, h11⟩), if_neg (by simp only [prims1, List.mem_cons, List.not_mem_nil, or_false, not_or]; exact ⟨h12, h13, h14, h15, h16, h17⟩), if_neg h18]
  simp +contextual only [e1, e2, e3, e4, e5, e6, e7, e8, e9, e10, e11, e12, e13, e14, e15, e16, e17, e18, ht, ↓wA, wC, Ex.ends, evR, oneOf, top, ↓reduceIte, Nat.reduceEqDiff, Nat.reduceLeDiff, Nat.reduceAdd, Nat.reduceSub, Nat.reduceMul, reduceCtorEq, Int.reduceEq, Int.reduceLT, Int.reduceLE, Int.reduceNeg]
theorem has_ctr (c : Co) (vs : List V) (h : Heap) (H : CoIn h c vs) (x n s t : Bool) : Ctr Tryz.prog 69 [.agg vs, .bool x, .bool n, .bool s, .bool t] h fun y h' => y = .bool (hasB c x n s t) ∧ Ext h h' := by
  obtain ⟨va, vt, vl, rfl, Ha, Ht, Hl⟩ := H.open
  refine c69_ctr rfl (wpK_of ?_)
  unfold c69
  have e0 : Ext h (h.new (.ofL [.int .i64 c.k, .int .i64 c.x, .int .i64 c.n, .str c.s, va, vt, vl] 0 false)) := (Ext.refl h).new _
  have hT := (Ht.ext e0).len
  simp +contextual only [hT, ↓wA, wC, Ex.ends, evR, oneOf, top, ↓reduceIte, Nat.reduceEqDiff, Nat.reduceLeDiff, Nat.reduceAdd, Nat.reduceSub, Nat.reduceMul, reduceCtorEq, Int.reduceEq, Int.reduceLT, Int.reduceLE, Int.reduceNeg]
  refine ⟨?_, e0⟩
  have e1 : decide ((c.t.length : Int) = 0) = decide (c.t = []) := by rw [decide_eq_decide, ← List.length_eq_zero_iff]; omega
  rw [e1]
  rfl
end Go.Proofs.YtjbiefneffiogaaGreat

namespace Go.Proofs.YtjbiefneffiogaaGreat
open Go Am
theorem rtags_ctr (nums : Bool) (l : List Int) (v : V) (h : Heap) (H : SlV h 1 v l.length (intsV l)) (hl : l.length ≤ 4611686018427387904) :
    CallsV Tryz.prog 133 [v, .bool nums] h (.bool (tagsB nums l)) h := by
  refine pure_calls (c133_ctr rfl (wpK_of ?_))
  unfold c133
  simp +contextual only [↓wA, wC, Ex.ends, evR, oneOf, top, ↓reduceIte, Nat.reduceEqDiff, Nat.reduceLeDiff, Nat.reduceAdd, Nat.reduceSub, Nat.reduceMul, reduceCtorEq, Int.reduceEq, Int.reduceLT, Int.reduceLE, Int.reduceNeg]
  refine loopK_intro (fun r h' => h' = h ∧ r 0 = v ∧ r 1 = .bool nums ∧ ∃ i : Nat, r 5 = .int .i64 i ∧ i ≤ l.length ∧ tagsB nums l = tagsL nums (l.take i) (l.drop i)) (fun r h' => l.length - (r 5).toN) ?_ ?_
  · exact ⟨rfl, by simp only [↓wA, wC, ↓reduceIte, Nat.reduceEqDiff, reduceCtorEq], by simp only [↓wA, wC, ↓reduceIte, Nat.reduceEqDiff, reduceCtorEq], 0, by simp only [↓wA, wC, ↓reduceIte, Nat.reduceEqDiff, reduceCtorEq] <;> rfl, by omega, by rw [List.take_zero, List.drop_zero, tagsL_nil]⟩
  · rintro r h' ⟨rfl, r0, r1, i, r5, hi, hok⟩
    unfold c133l2
    by_cases hlt : i < l.length
    · have g0 : ((i : Int) < (l.length : Int)) = True := eq_true (by omega)
      obtain ⟨b, o, ia, ld⟩ := ints_at H (k := .i64) hlt
      rw [List.drop_eq_getElem_cons hlt, tagsL] at hok
      have w := w_inc hlt hl
      have htk : l.take (i + 1) = l.take i ++ [l[i]] := by rw [List.take_add_one, List.getElem?_eq_getElem hlt]; rfl
      generalize hV : (if nums = true then numB l[i] else varB l[i]) = good at hok
      have inner : ∀ (r' : RF) (ks : List KS) (Q : Ex → RF → Heap → Prop), r' 0 = v → r' 5 = .int .i64 i → r' 6 = .int .i64 0 →
          ((l.take i).contains l[i] = false → ∀ r'' : RF, r'' 0 = v → r'' 1 = r' 1 → r'' 5 = .int .i64 i → wpK Tryz.prog ks (.exit 2) r'' h' Q) →
          ((l.take i).contains l[i] = true → ∀ r'' : RF, r'' 4 = .bool false → wpK Tryz.prog ks .ret r'' h' Q) → loopK Tryz.prog c133l1 ks r' h' Q := by
        intro r' ks Q q0 q5 q6 hN hY
        refine loopK_intro (fun r'' h'' => h'' = h' ∧ r'' 0 = v ∧ r'' 1 = r' 1 ∧ r'' 5 = .int .i64 i ∧ ∃ j : Nat, r'' 6 = .int .i64 j ∧ j ≤ i ∧ ((l.take i).contains l[i] = ((l.take i).drop j).contains l[i])) (fun r'' h'' => i - (r'' 6).toN) ?_ ?_
        · exact ⟨rfl, q0, rfl, q5, 0, by rw [q6]; rfl, by omega, rfl⟩
        · rintro R h'' ⟨rfl, p0, p1, p5, j, p6, hj, hjok⟩
          unfold c133l1
          by_cases hjl : j < i
          · have g1 : ((j : Int) < (i : Int)) = True := eq_true (by omega)
            have hjn : j < l.length := by omega
            obtain ⟨b2, o2, ia2, ld2⟩ := ints_at H (k := .i64) hjn
            have w2 := w_inc hjn hl
            have hjt : j < (l.take i).length := by rw [List.length_take]; omega
            rw [List.drop_eq_getElem_cons hjt, List.contains_cons, List.getElem_take] at hjok
            by_cases he : l[j] = l[i]
            · have he' := eq_true he
              simp +contextual only [p0, p5, p6, g1, ia2, ld2, ia, ld, he', ↓wA, wC, Ex.ends, evR, oneOf, top, ↓reduceIte, Nat.reduceEqDiff, Nat.reduceLeDiff, Nat.reduceAdd, Nat.reduceSub, Nat.reduceMul, reduceCtorEq, Int.reduceEq, Int.reduceLT, Int.reduceLE, Int.reduceNeg]
              refine hY ?_ _ (by simp only [↓wA, wC, ↓reduceIte, Nat.reduceEqDiff, reduceCtorEq])
              rw [hjok, he]; simp
            · have he' := eq_false he
              simp +contextual only [p0, p1, p5, p6, g1, ia2, ld2, ia, ld, he', w2, ↓wA, wC, Ex.ends, evR, oneOf, top, ↓reduceIte, Nat.reduceEqDiff, Nat.reduceLeDiff, Nat.reduceAdd, Nat.reduceSub, Nat.reduceMul, reduceCtorEq, Int.reduceEq, Int.reduceLT, Int.reduceLE, Int.reduceNeg]
              refine ⟨⟨j + 1, rfl, by omega, ?_⟩, by omega⟩
              rw [hjok]
              have : (l[i] == l[j]) = false := by simpa using fun e : l[i] = l[j] => he e.symm
              rw [this, Bool.false_or]
          · have g1 : ((j : Int) < (i : Int)) = False := eq_false (by omega)
            rw [List.drop_eq_nil_of_le (by rw [List.length_take]; omega)] at hjok
            simp +contextual only [p0, p5, p6, g1, ↓wA, wC, Ex.ends, evR, oneOf, top, ↓reduceIte, Nat.reduceEqDiff, Nat.reduceLeDiff, Nat.reduceAdd, Nat.reduceSub, Nat.reduceMul, reduceCtorEq, Int.reduceEq, Int.reduceLT, Int.reduceLE, Int.reduceNeg]
            exact hN (by rw [hjok]; rfl) _ (by simp only [p0, ↓wA, wC, ↓reduceIte, Nat.reduceEqDiff, reduceCtorEq]) (by simp only [p1, ↓wA, wC, ↓reduceIte, Nat.reduceEqDiff, reduceCtorEq]) (by simp only [p5, ↓wA, wC, ↓reduceIte, Nat.reduceEqDiff, reduceCtorEq])
      have hL := H.len
      cases nums with
      | true =>
        simp +contextual only [r0, r1, r5, hL, g0, ia, ld, ↓wA, wC, Ex.ends, evR, oneOf, top, ↓reduceIte, Nat.reduceEqDiff, Nat.reduceLeDiff, Nat.reduceAdd, Nat.reduceSub, Nat.reduceMul, reduceCtorEq, Int.reduceEq, Int.reduceLT, Int.reduceLE, Int.reduceNeg]
        refine callK_pure (rnumber_pure _ _) ?_
        have hg : numB l[i] = good := by rw [← hV]; rfl
        cases good with
        | false =>
          have hf : tagsB true l = false := by rw [hok]; rfl
          simp +contextual only [hg, hf, ↓wA, wC, Ex.ends, evR, oneOf, top, ↓reduceIte, Nat.reduceEqDiff, Nat.reduceLeDiff, Nat.reduceAdd, Nat.reduceSub, Nat.reduceMul, reduceCtorEq, Int.reduceEq, Int.reduceLT, Int.reduceLE, Int.reduceNeg]
        | true =>
          simp +contextual only [r0, r1, r5, hg, ↓wA, wC, Ex.ends, evR, oneOf, top, ↓reduceIte, Nat.reduceEqDiff, Nat.reduceLeDiff, Nat.reduceAdd, Nat.reduceSub, Nat.reduceMul, reduceCtorEq, Int.reduceEq, Int.reduceLT, Int.reduceLE, Int.reduceNeg]
          refine inner _ _ _ (by simp only [r0, ↓wA, wC, ↓reduceIte, Nat.reduceEqDiff, reduceCtorEq]) (by simp only [r5, ↓wA, wC, ↓reduceIte, Nat.reduceEqDiff, reduceCtorEq]) (by simp only [↓wA, wC, ↓reduceIte, Nat.reduceEqDiff, reduceCtorEq]) ?_ ?_
          · intro hc r2 p0 p1 p5
            have p1' : r2 1 = .bool true := by rw [p1]; simp only [r1, ↓wA, wC, Ex.ends, evR, oneOf, top, ↓reduceIte, Nat.reduceEqDiff, Nat.reduceLeDiff, Nat.reduceAdd, Nat.reduceSub, Nat.reduceMul, reduceCtorEq, Int.reduceEq, Int.reduceLT, Int.reduceLE, Int.reduceNeg]
            simp +contextual only [p0, p1', p5, w, ↓wA, wC, Ex.ends, evR, oneOf, top, ↓reduceIte, Nat.reduceEqDiff, Nat.reduceLeDiff, Nat.reduceAdd, Nat.reduceSub, Nat.reduceMul, reduceCtorEq, Int.reduceEq, Int.reduceLT, Int.reduceLE, Int.reduceNeg]
            exact ⟨⟨i + 1, rfl, hlt, by rw [hok, hc, htk]; rfl⟩, by omega⟩
          · intro hc r2 p4
            have hf : tagsB true l = false := by rw [hok, hc]; rfl
            simp +contextual only [p4, hf, ↓wA, wC, Ex.ends, evR, oneOf, top, ↓reduceIte, Nat.reduceEqDiff, Nat.reduceLeDiff, Nat.reduceAdd, Nat.reduceSub, Nat.reduceMul, reduceCtorEq, Int.reduceEq, Int.reduceLT, Int.reduceLE, Int.reduceNeg]
      | false =>
        simp +contextual only [r0, r1, r5, hL, g0, ia, ld, ↓wA, wC, Ex.ends, evR, oneOf, top, ↓reduceIte, Nat.reduceEqDiff, Nat.reduceLeDiff, Nat.reduceAdd, Nat.reduceSub, Nat.reduceMul, reduceCtorEq, Int.reduceEq, Int.reduceLT, Int.reduceLE, Int.reduceNeg]
        refine callK_pure (rvariable_pure _ _) ?_
        have hg : varB l[i] = good := by rw [← hV]; rfl
        cases good with
        | false =>
          have hf : tagsB false l = false := by rw [hok]; rfl
          simp +contextual only [hg, hf, ↓wA, wC, Ex.ends, evR, oneOf, top, ↓reduceIte, Nat.reduceEqDiff, Nat.reduceLeDiff, Nat.reduceAdd, Nat.reduceSub, Nat.reduceMul, reduceCtorEq, Int.reduceEq, Int.reduceLT, Int.reduceLE, Int.reduceNeg]
        | true =>
          simp +contextual only [r0, r1, r5, hg, ↓wA, wC, Ex.ends, evR, oneOf, top, ↓reduceIte, Nat.reduceEqDiff, Nat.reduceLeDiff, Nat.reduceAdd, Nat.reduceSub, Nat.reduceMul, reduceCtorEq, Int.reduceEq, Int.reduceLT, Int.reduceLE, Int.reduceNeg]
          refine inner _ _ _ (by simp only [r0, ↓wA, wC, ↓reduceIte, Nat.reduceEqDiff, reduceCtorEq]) (by simp only [r5, ↓wA, wC, ↓reduceIte, Nat.reduceEqDiff, reduceCtorEq]) (by simp only [↓wA, wC, ↓reduceIte, Nat.reduceEqDiff, reduceCtorEq]) ?_ ?_
          · intro hc r2 p0 p1 p5
            have p1' : r2 1 = .bool false := by rw [p1]; simp only [r1, ↓wA, wC, Ex.ends, evR, oneOf, top, ↓reduceIte, Nat.reduceEqDiff, Nat.reduceLeDiff, Nat.reduceAdd, Nat.reduceSub, Nat.reduceMul, reduceCtorEq, Int.reduceEq, Int.reduceLT, Int.reduceLE, Int.reduceNeg]
            simp +contextual only [p0, p1', p5, w, ↓wA, wC, Ex.ends, evR, oneOf, top, ↓reduceIte, Nat.reduceEqDiff, Nat.reduceLeDiff, Nat.reduceAdd, Nat.reduceSub, Nat.reduceMul, reduceCtorEq, Int.reduceEq, Int.reduceLT, Int.reduceLE, Int.reduceNeg]
            exact ⟨⟨i + 1, rfl, hlt, by rw [hok, hc, htk]; rfl⟩, by omega⟩
          · intro hc r2 p4
            have hf : tagsB false l = false := by rw [hok, hc]; rfl
            simp +contextual only [p4, hf, ↓wA, wC, Ex.ends, evR, oneOf, top, ↓reduceIte, Nat.reduceEqDiff, Nat.reduceLeDiff, Nat.reduceAdd, Nat.reduceSub, Nat.reduceMul, reduceCtorEq, Int.reduceEq, Int.reduceLT, Int.reduceLE, Int.reduceNeg]
    · have g0 : ((i : Int) < (l.length : Int)) = False := eq_false (by omega)
      rw [List.drop_eq_nil_of_le (by omega)] at hok
      have hL := H.len
      simp +contextual only [r0, r1, r5, hL, g0, ↓wA, wC, Ex.ends, evR, oneOf, top, ↓reduceIte, Nat.reduceEqDiff, Nat.reduceLeDiff, Nat.reduceAdd, Nat.reduceSub, Nat.reduceMul, reduceCtorEq, Int.reduceEq, Int.reduceLT, Int.reduceLE, Int.reduceNeg]
      rw [hok]
      rfl
end Go.Proofs.YtjbiefneffiogaaGreat

namespace Go.Proofs.YtjbiefneffiogaaGreat
open Go Am
set_option maxHeartbeats 4000000 in
theorem rown_ctr (c : Co) (vs : List V) (h : Heap) (H : CoIn h c vs) (hfa : c.a.length ≤ 1048576) (hft : c.t.length ≤ 1048576) (hfl : c.l.length ≤ 1048576) : Ctr Tryz.prog 71 [.agg vs] h fun x h' => x = .bool (OwnR c) ∧ Ext h h' := by
  obtain ⟨va, vt, vl, rfl, Ha, Ht, Hl⟩ := H.open
  refine c71_ctr rfl (wpK_of ?_)
  unfold c71
  have e0 : Ext h (h.new (.ofL [.int .i64 c.k, .int .i64 c.x, .int .i64 c.n, .str c.s, va, vt, vl] 0 false)) := (Ext.refl h).new _
  have step : ∀ g g' : Heap, Ext h g → (h.next < g.next ∧ g.get (pa h.next) = .ofL [.int .i64 c.k, .int .i64 c.x, .int .i64 c.n, .str c.s, va, vt, vl] 0 false) → Ext g g' → (h.next < g'.next ∧ g'.get (pa h.next) = .ofL [.int .i64 c.k, .int .i64 c.x, .int .i64 c.n, .str c.s, va, vt, vl] 0 false) ∧ Ext h g' := by
    rintro g g' e ⟨k1, k2⟩ e'
    exact ⟨⟨Nat.lt_of_lt_of_le k1 e'.next, by rw [e'.get _ (old_lt k1)]; exact k2⟩, e.trans e'⟩
  have b0 : h.next < (h.new (.ofL [.int .i64 c.k, .int .i64 c.x, .int .i64 c.n, .str c.s, va, vt, vl] 0 false)).next ∧ (h.new (.ofL [.int .i64 c.k, .int .i64 c.x, .int .i64 c.n, .str c.s, va, vt, vl] 0 false)).get (pa h.next) = .ofL [.int .i64 c.k, .int .i64 c.x, .int .i64 c.n, .str c.s, va, vt, vl] 0 false := ⟨by rw [next_new]; omega, get_new_self _⟩
  have hA := (Ha.ext e0).len
  have hT := (Ht.ext e0).len
  have hL := (Hl.ext e0).len
  by_cases h1 : c.k = 1
  · have e1 := eq_true h1
    have e12 : (c.k = 12) = False := eq_false (by omega)
    have e2 : (c.k = 2) = False := eq_false (by omega)
    have e11 : (c.k = 11) = False := eq_false (by omega)
    have e3 : (c.k = 3) = False := eq_false (by omega)
    have e4 : (c.k = 4) = False := eq_false (by omega)
    have e5 : (c.k = 5) = False := eq_false (by omega)
    have e6 : (c.k = 6) = False := eq_false (by omega)
    have e9 : (c.k = 9) = False := eq_false (by omega)
    have e10 : (c.k = 10) = False := eq_false (by omega)
    have hO : OwnR c = (hasB c false false false false && atomsB c.a 1 && decide (c.l.length = 0)) := by rw [OwnR]; simp only [e1, e12, e2, e11, e3, e4, e5, e6, e9, e10, if_true, if_false, true_or, or_true, false_or, or_false, decide_true, decide_false]
    simp +contextual only [e1, e12, e2, e11, e3, e4, e5, e6, e9, e10, hA, hT, hL, ↓wA, wC, Ex.ends, evR, oneOf, top, ↓reduceIte, Nat.reduceEqDiff, Nat.reduceLeDiff, Nat.reduceAdd, Nat.reduceSub, Nat.reduceMul, reduceCtorEq, Int.reduceEq, Int.reduceLT, Int.reduceLE, Int.reduceNeg]
    refine callK_intro (has_ctr c _ _ (H.ext e0) false false false false) ?_
    rintro x g1 ⟨rfl, hx1⟩
    obtain ⟨b1, s1⟩ := step _ g1 e0 b0 hx1
    obtain ⟨n1, c1⟩ := b1
    have b1 := And.intro n1 c1
    have hA1 := (Ha.ext s1).len
    have hT1 := (Ht.ext s1).len
    have hL1 := (Hl.ext s1).len
    cases q1 : hasB c false false false false with
    | false =>
      have hf : OwnR c = false := by rw [hO]; grind
      simp +contextual only [e1, e12, e2, e11, e3, e4, e5, e6, e9, e10, c1, hA1, hT1, hL1, hf, ↓wA, wC, Ex.ends, evR, oneOf, top, ↓reduceIte, Nat.reduceEqDiff, Nat.reduceLeDiff, Nat.reduceAdd, Nat.reduceSub, Nat.reduceMul, reduceCtorEq, Int.reduceEq, Int.reduceLT, Int.reduceLE, Int.reduceNeg]
      exact s1
    | true =>
    simp +contextual only [e1, e12, e2, e11, e3, e4, e5, e6, e9, e10, c1, hA1, hT1, hL1, ↓wA, wC, Ex.ends, evR, oneOf, top, ↓reduceIte, Nat.reduceEqDiff, Nat.reduceLeDiff, Nat.reduceAdd, Nat.reduceSub, Nat.reduceMul, reduceCtorEq, Int.reduceEq, Int.reduceLT, Int.reduceLE, Int.reduceNeg]
    refine callK_intro (ratoms_ctr c.a (1) va g1 (Ha.ext s1) (by omega)) ?_
    rintro x g2 ⟨rfl, hx2⟩
    obtain ⟨b2, s2⟩ := step _ g2 s1 b1 hx2
    obtain ⟨n2, c2⟩ := b2
    have b2 := And.intro n2 c2
    have hA2 := (Ha.ext s2).len
    have hT2 := (Ht.ext s2).len
    have hL2 := (Hl.ext s2).len
    cases q2 : atomsB c.a (1) with
    | false =>
      have hf : OwnR c = false := by rw [hO]; grind
      simp +contextual only [e1, e12, e2, e11, e3, e4, e5, e6, e9, e10, c2, hA2, hT2, hL2, hf, ↓wA, wC, Ex.ends, evR, oneOf, top, ↓reduceIte, Nat.reduceEqDiff, Nat.reduceLeDiff, Nat.reduceAdd, Nat.reduceSub, Nat.reduceMul, reduceCtorEq, Int.reduceEq, Int.reduceLT, Int.reduceLE, Int.reduceNeg]
      exact s2
    | true =>
    simp +contextual only [e1, e12, e2, e11, e3, e4, e5, e6, e9, e10, c2, hA2, hT2, hL2, ↓wA, wC, Ex.ends, evR, oneOf, top, ↓reduceIte, Nat.reduceEqDiff, Nat.reduceLeDiff, Nat.reduceAdd, Nat.reduceSub, Nat.reduceMul, reduceCtorEq, Int.reduceEq, Int.reduceLT, Int.reduceLE, Int.reduceNeg]
    refine ⟨?_, s2⟩
    rw [hO]
    grind
  have e1 := eq_false h1
  by_cases h12 : c.k = 12
  · have e12 := eq_true h12
    have e2 : (c.k = 2) = False := eq_false (by omega)
    have e11 : (c.k = 11) = False := eq_false (by omega)
    have e3 : (c.k = 3) = False := eq_false (by omega)
    have e4 : (c.k = 4) = False := eq_false (by omega)
    have e5 : (c.k = 5) = False := eq_false (by omega)
    have e6 : (c.k = 6) = False := eq_false (by omega)
    have e9 : (c.k = 9) = False := eq_false (by omega)
    have e10 : (c.k = 10) = False := eq_false (by omega)
    have hO : OwnR c = (hasB c false false false false && atomsB c.a 1 && decide (c.l.length = 0)) := by rw [OwnR]; simp only [e1, e12, e2, e11, e3, e4, e5, e6, e9, e10, if_true, if_false, true_or, or_true, false_or, or_false, decide_true, decide_false]
    simp +contextual only [e1, e12, e2, e11, e3, e4, e5, e6, e9, e10, hA, hT, hL, ↓wA, wC, Ex.ends, evR, oneOf, top, ↓reduceIte, Nat.reduceEqDiff, Nat.reduceLeDiff, Nat.reduceAdd, Nat.reduceSub, Nat.reduceMul, reduceCtorEq, Int.reduceEq, Int.reduceLT, Int.reduceLE, Int.reduceNeg]
    refine callK_intro (has_ctr c _ _ (H.ext e0) false false false false) ?_
    rintro x g1 ⟨rfl, hx1⟩
    obtain ⟨b1, s1⟩ := step _ g1 e0 b0 hx1
    obtain ⟨n1, c1⟩ := b1
    have b1 := And.intro n1 c1
    have hA1 := (Ha.ext s1).len
    have hT1 := (Ht.ext s1).len
    have hL1 := (Hl.ext s1).len
    cases q1 : hasB c false false false false with
    | false =>
      have hf : OwnR c = false := by rw [hO]; grind
      simp +contextual only [e1, e12, e2, e11, e3, e4, e5, e6, e9, e10, c1, hA1, hT1, hL1, hf, ↓wA, wC, Ex.ends, evR, oneOf, top, ↓reduceIte, Nat.reduceEqDiff, Nat.reduceLeDiff, Nat.reduceAdd, Nat.reduceSub, Nat.reduceMul, reduceCtorEq, Int.reduceEq, Int.reduceLT, Int.reduceLE, Int.reduceNeg]
      exact s1
    | true =>
    simp +contextual only [e1, e12, e2, e11, e3, e4, e5, e6, e9, e10, c1, hA1, hT1, hL1, ↓wA, wC, Ex.ends, evR, oneOf, top, ↓reduceIte, Nat.reduceEqDiff, Nat.reduceLeDiff, Nat.reduceAdd, Nat.reduceSub, Nat.reduceMul, reduceCtorEq, Int.reduceEq, Int.reduceLT, Int.reduceLE, Int.reduceNeg]
    refine callK_intro (ratoms_ctr c.a (1) va g1 (Ha.ext s1) (by omega)) ?_
    rintro x g2 ⟨rfl, hx2⟩
    obtain ⟨b2, s2⟩ := step _ g2 s1 b1 hx2
    obtain ⟨n2, c2⟩ := b2
    have b2 := And.intro n2 c2
    have hA2 := (Ha.ext s2).len
    have hT2 := (Ht.ext s2).len
    have hL2 := (Hl.ext s2).len
    cases q2 : atomsB c.a (1) with
    | false =>
      have hf : OwnR c = false := by rw [hO]; grind
      simp +contextual only [e1, e12, e2, e11, e3, e4, e5, e6, e9, e10, c2, hA2, hT2, hL2, hf, ↓wA, wC, Ex.ends, evR, oneOf, top, ↓reduceIte, Nat.reduceEqDiff, Nat.reduceLeDiff, Nat.reduceAdd, Nat.reduceSub, Nat.reduceMul, reduceCtorEq, Int.reduceEq, Int.reduceLT, Int.reduceLE, Int.reduceNeg]
      exact s2
    | true =>
    simp +contextual only [e1, e12, e2, e11, e3, e4, e5, e6, e9, e10, c2, hA2, hT2, hL2, ↓wA, wC, Ex.ends, evR, oneOf, top, ↓reduceIte, Nat.reduceEqDiff, Nat.reduceLeDiff, Nat.reduceAdd, Nat.reduceSub, Nat.reduceMul, reduceCtorEq, Int.reduceEq, Int.reduceLT, Int.reduceLE, Int.reduceNeg]
    refine ⟨?_, s2⟩
    rw [hO]
    grind
  have e12 := eq_false h12
  by_cases h2 : c.k = 2
  · have e2 := eq_true h2
    have e11 : (c.k = 11) = False := eq_false (by omega)
    have e3 : (c.k = 3) = False := eq_false (by omega)
    have e4 : (c.k = 4) = False := eq_false (by omega)
    have e5 : (c.k = 5) = False := eq_false (by omega)
    have e6 : (c.k = 6) = False := eq_false (by omega)
    have e9 : (c.k = 9) = False := eq_false (by omega)
    have e10 : (c.k = 10) = False := eq_false (by omega)
    have hO : OwnR c = (hasB c true false false false && varB c.x && decide (c.a.length = 0) && decide (c.l.length = 2)) := by rw [OwnR]; simp only [e1, e12, e2, e11, e3, e4, e5, e6, e9, e10, if_true, if_false, true_or, or_true, false_or, or_false, decide_true, decide_false]
    simp +contextual only [e1, e12, e2, e11, e3, e4, e5, e6, e9, e10, hA, hT, hL, ↓wA, wC, Ex.ends, evR, oneOf, top, ↓reduceIte, Nat.reduceEqDiff, Nat.reduceLeDiff, Nat.reduceAdd, Nat.reduceSub, Nat.reduceMul, reduceCtorEq, Int.reduceEq, Int.reduceLT, Int.reduceLE, Int.reduceNeg]
    refine callK_intro (has_ctr c _ _ (H.ext e0) true false false false) ?_
    rintro x g1 ⟨rfl, hx1⟩
    obtain ⟨b1, s1⟩ := step _ g1 e0 b0 hx1
    obtain ⟨n1, c1⟩ := b1
    have b1 := And.intro n1 c1
    have hA1 := (Ha.ext s1).len
    have hT1 := (Ht.ext s1).len
    have hL1 := (Hl.ext s1).len
    cases q1 : hasB c true false false false with
    | false =>
      have hf : OwnR c = false := by rw [hO]; grind
      simp +contextual only [e1, e12, e2, e11, e3, e4, e5, e6, e9, e10, c1, hA1, hT1, hL1, hf, ↓wA, wC, Ex.ends, evR, oneOf, top, ↓reduceIte, Nat.reduceEqDiff, Nat.reduceLeDiff, Nat.reduceAdd, Nat.reduceSub, Nat.reduceMul, reduceCtorEq, Int.reduceEq, Int.reduceLT, Int.reduceLE, Int.reduceNeg]
      exact s1
    | true =>
    simp +contextual only [e1, e12, e2, e11, e3, e4, e5, e6, e9, e10, c1, hA1, hT1, hL1, ↓wA, wC, Ex.ends, evR, oneOf, top, ↓reduceIte, Nat.reduceEqDiff, Nat.reduceLeDiff, Nat.reduceAdd, Nat.reduceSub, Nat.reduceMul, reduceCtorEq, Int.reduceEq, Int.reduceLT, Int.reduceLE, Int.reduceNeg]
    refine callK_pure (rvariable_pure _ _) ?_
    cases q2 : varB c.x with
    | false =>
      have hf : OwnR c = false := by rw [hO]; grind
      simp +contextual only [e1, e12, e2, e11, e3, e4, e5, e6, e9, e10, c1, hA1, hT1, hL1, hf, ↓wA, wC, Ex.ends, evR, oneOf, top, ↓reduceIte, Nat.reduceEqDiff, Nat.reduceLeDiff, Nat.reduceAdd, Nat.reduceSub, Nat.reduceMul, reduceCtorEq, Int.reduceEq, Int.reduceLT, Int.reduceLE, Int.reduceNeg]
      exact s1
    | true =>
    simp +contextual only [e1, e12, e2, e11, e3, e4, e5, e6, e9, e10, c1, hA1, hT1, hL1, ↓wA, wC, Ex.ends, evR, oneOf, top, ↓reduceIte, Nat.reduceEqDiff, Nat.reduceLeDiff, Nat.reduceAdd, Nat.reduceSub, Nat.reduceMul, reduceCtorEq, Int.reduceEq, Int.reduceLT, Int.reduceLE, Int.reduceNeg]
    refine ⟨?_, s1⟩
    rw [hO]
    grind
  have e2 := eq_false h2
  by_cases h11 : c.k = 11
  · have e11 := eq_true h11
    have e3 : (c.k = 3) = False := eq_false (by omega)
    have e4 : (c.k = 4) = False := eq_false (by omega)
    have e5 : (c.k = 5) = False := eq_false (by omega)
    have e6 : (c.k = 6) = False := eq_false (by omega)
    have e9 : (c.k = 9) = False := eq_false (by omega)
    have e10 : (c.k = 10) = False := eq_false (by omega)
    have hO : OwnR c = (hasB c true false false false && varB c.x && decide (c.a.length = 0) && decide (c.l.length = 2)) := by rw [OwnR]; simp only [e1, e12, e2, e11, e3, e4, e5, e6, e9, e10, if_true, if_false, true_or, or_true, false_or, or_false, decide_true, decide_false]
    simp +contextual only [e1, e12, e2, e11, e3, e4, e5, e6, e9, e10, hA, hT, hL, ↓wA, wC, Ex.ends, evR, oneOf, top, ↓reduceIte, Nat.reduceEqDiff, Nat.reduceLeDiff, Nat.reduceAdd, Nat.reduceSub, Nat.reduceMul, reduceCtorEq, Int.reduceEq, Int.reduceLT, Int.reduceLE, Int.reduceNeg]
    refine callK_intro (has_ctr c _ _ (H.ext e0) true false false false) ?_
    rintro x g1 ⟨rfl, hx1⟩
    obtain ⟨b1, s1⟩ := step _ g1 e0 b0 hx1
    obtain ⟨n1, c1⟩ := b1
    have b1 := And.intro n1 c1
    have hA1 := (Ha.ext s1).len
    have hT1 := (Ht.ext s1).len
    have hL1 := (Hl.ext s1).len
    cases q1 : hasB c true false false false with
    | false =>
      have hf : OwnR c = false := by rw [hO]; grind
      simp +contextual only [e1, e12, e2, e11, e3, e4, e5, e6, e9, e10, c1, hA1, hT1, hL1, hf, ↓wA, wC, Ex.ends, evR, oneOf, top, ↓reduceIte, Nat.reduceEqDiff, Nat.reduceLeDiff, Nat.reduceAdd, Nat.reduceSub, Nat.reduceMul, reduceCtorEq, Int.reduceEq, Int.reduceLT, Int.reduceLE, Int.reduceNeg]
      exact s1
    | true =>
    simp +contextual only [e1, e12, e2, e11, e3, e4, e5, e6, e9, e10, c1, hA1, hT1, hL1, ↓wA, wC, Ex.ends, evR, oneOf, top, ↓reduceIte, Nat.reduceEqDiff, Nat.reduceLeDiff, Nat.reduceAdd, Nat.reduceSub, Nat.reduceMul, reduceCtorEq, Int.reduceEq, Int.reduceLT, Int.reduceLE, Int.reduceNeg]
    refine callK_pure (rvariable_pure _ _) ?_
    cases q2 : varB c.x with
    | false =>
      have hf : OwnR c = false := by rw [hO]; grind
      simp +contextual only [e1, e12, e2, e11, e3, e4, e5, e6, e9, e10, c1, hA1, hT1, hL1, hf, ↓wA, wC, Ex.ends, evR, oneOf, top, ↓reduceIte, Nat.reduceEqDiff, Nat.reduceLeDiff, Nat.reduceAdd, Nat.reduceSub, Nat.reduceMul, reduceCtorEq, Int.reduceEq, Int.reduceLT, Int.reduceLE, Int.reduceNeg]
      exact s1
    | true =>
    simp +contextual only [e1, e12, e2, e11, e3, e4, e5, e6, e9, e10, c1, hA1, hT1, hL1, ↓wA, wC, Ex.ends, evR, oneOf, top, ↓reduceIte, Nat.reduceEqDiff, Nat.reduceLeDiff, Nat.reduceAdd, Nat.reduceSub, Nat.reduceMul, reduceCtorEq, Int.reduceEq, Int.reduceLT, Int.reduceLE, Int.reduceNeg]
    refine ⟨?_, s1⟩
    rw [hO]
    grind
  have e11 := eq_false h11
  by_cases h3 : c.k = 3
  · have e3 := eq_true h3
    have e4 : (c.k = 4) = False := eq_false (by omega)
    have e5 : (c.k = 5) = False := eq_false (by omega)
    have e6 : (c.k = 6) = False := eq_false (by omega)
    have e9 : (c.k = 9) = False := eq_false (by omega)
    have e10 : (c.k = 10) = False := eq_false (by omega)
    have hO : OwnR c = (hasB c false false true false && decide (0 < takes c.s) && atomsB c.a (takes c.s) && decide (c.l.length = 0)) := by rw [OwnR]; simp only [e1, e12, e2, e11, e3, e4, e5, e6, e9, e10, if_true, if_false, true_or, or_true, false_or, or_false, decide_true, decide_false]
    simp +contextual only [e1, e12, e2, e11, e3, e4, e5, e6, e9, e10, hA, hT, hL, ↓wA, wC, Ex.ends, evR, oneOf, top, ↓reduceIte, Nat.reduceEqDiff, Nat.reduceLeDiff, Nat.reduceAdd, Nat.reduceSub, Nat.reduceMul, reduceCtorEq, Int.reduceEq, Int.reduceLT, Int.reduceLE, Int.reduceNeg]
    refine callK_intro (has_ctr c _ _ (H.ext e0) false false true false) ?_
    rintro x g1 ⟨rfl, hx1⟩
    obtain ⟨b1, s1⟩ := step _ g1 e0 b0 hx1
    obtain ⟨n1, c1⟩ := b1
    have b1 := And.intro n1 c1
    have hA1 := (Ha.ext s1).len
    have hT1 := (Ht.ext s1).len
    have hL1 := (Hl.ext s1).len
    cases q1 : hasB c false false true false with
    | false =>
      have hf : OwnR c = false := by rw [hO]; grind
      simp +contextual only [e1, e12, e2, e11, e3, e4, e5, e6, e9, e10, c1, hA1, hT1, hL1, hf, ↓wA, wC, Ex.ends, evR, oneOf, top, ↓reduceIte, Nat.reduceEqDiff, Nat.reduceLeDiff, Nat.reduceAdd, Nat.reduceSub, Nat.reduceMul, reduceCtorEq, Int.reduceEq, Int.reduceLT, Int.reduceLE, Int.reduceNeg]
      exact s1
    | true =>
    simp +contextual only [e1, e12, e2, e11, e3, e4, e5, e6, e9, e10, c1, hA1, hT1, hL1, ↓wA, wC, Ex.ends, evR, oneOf, top, ↓reduceIte, Nat.reduceEqDiff, Nat.reduceLeDiff, Nat.reduceAdd, Nat.reduceSub, Nat.reduceMul, reduceCtorEq, Int.reduceEq, Int.reduceLT, Int.reduceLE, Int.reduceNeg]
    refine callK_pure (takes_pure _ _) ?_
    simp +contextual only [e1, e12, e2, e11, e3, e4, e5, e6, e9, e10, c1, hA1, hT1, hL1, ↓wA, wC, Ex.ends, evR, oneOf, top, ↓reduceIte, Nat.reduceEqDiff, Nat.reduceLeDiff, Nat.reduceAdd, Nat.reduceSub, Nat.reduceMul, reduceCtorEq, Int.reduceEq, Int.reduceLT, Int.reduceLE, Int.reduceNeg]
    by_cases ht : 0 < takes c.s
    · have ht' := eq_true ht
      simp +contextual only [e1, e12, e2, e11, e3, e4, e5, e6, e9, e10, c1, hA1, hT1, hL1, ht', ↓wA, wC, Ex.ends, evR, oneOf, top, ↓reduceIte, Nat.reduceEqDiff, Nat.reduceLeDiff, Nat.reduceAdd, Nat.reduceSub, Nat.reduceMul, reduceCtorEq, Int.reduceEq, Int.reduceLT, Int.reduceLE, Int.reduceNeg]
      refine callK_pure (takes_pure _ _) ?_
      simp +contextual only [e1, e12, e2, e11, e3, e4, e5, e6, e9, e10, c1, hA1, hT1, hL1, ht', ↓wA, wC, Ex.ends, evR, oneOf, top, ↓reduceIte, Nat.reduceEqDiff, Nat.reduceLeDiff, Nat.reduceAdd, Nat.reduceSub, Nat.reduceMul, reduceCtorEq, Int.reduceEq, Int.reduceLT, Int.reduceLE, Int.reduceNeg]
      refine callK_intro (ratoms_ctr c.a (takes c.s) va g1 (Ha.ext s1) (by omega)) ?_
      rintro x g2 ⟨rfl, hx2⟩
      obtain ⟨⟨n2, c2⟩, s2⟩ := step g1 g2 s1 b1 hx2
      have hL2 := (Hl.ext s2).len
      cases q2 : atomsB c.a (takes c.s) with
      | false =>
        have hf : OwnR c = false := by rw [hO]; grind
        simp +contextual only [e1, e12, e2, e11, e3, e4, e5, e6, e9, e10, c1, c2, hA1, hT1, hL1, hL2, ht', hf, ↓wA, wC, Ex.ends, evR, oneOf, top, ↓reduceIte, Nat.reduceEqDiff, Nat.reduceLeDiff, Nat.reduceAdd, Nat.reduceSub, Nat.reduceMul, reduceCtorEq, Int.reduceEq, Int.reduceLT, Int.reduceLE, Int.reduceNeg]
        exact s2
      | true =>
        simp +contextual only [e1, e12, e2, e11, e3, e4, e5, e6, e9, e10, c1, c2, hA1, hT1, hL1, hL2, ht', ↓wA, wC, Ex.ends, evR, oneOf, top, ↓reduceIte, Nat.reduceEqDiff, Nat.reduceLeDiff, Nat.reduceAdd, Nat.reduceSub, Nat.reduceMul, reduceCtorEq, Int.reduceEq, Int.reduceLT, Int.reduceLE, Int.reduceNeg]
        refine ⟨?_, s2⟩
        rw [hO]
        grind
    · have ht' := eq_false ht
      have hf : OwnR c = false := by rw [hO]; grind
      simp +contextual only [e1, e12, e2, e11, e3, e4, e5, e6, e9, e10, c1, hA1, hT1, hL1, ht', hf, ↓wA, wC, Ex.ends, evR, oneOf, top, ↓reduceIte, Nat.reduceEqDiff, Nat.reduceLeDiff, Nat.reduceAdd, Nat.reduceSub, Nat.reduceMul, reduceCtorEq, Int.reduceEq, Int.reduceLT, Int.reduceLE, Int.reduceNeg]
      exact s1
  have e3 := eq_false h3
  by_cases h4 : c.k = 4
  · have e4 := eq_true h4
    have e5 : (c.k = 5) = False := eq_false (by omega)
    have e6 : (c.k = 6) = False := eq_false (by omega)
    have e9 : (c.k = 9) = False := eq_false (by omega)
    have e10 : (c.k = 10) = False := eq_false (by omega)
    have hO : OwnR c = (hasB c false true false false && varB c.n && decide (c.a.length ≤ 1024) && atomsB c.a c.a.length && decide (c.l.length = 0)) := by rw [OwnR]; simp only [e1, e12, e2, e11, e3, e4, e5, e6, e9, e10, if_true, if_false, true_or, or_true, false_or, or_false, decide_true, decide_false]
    simp +contextual only [e1, e12, e2, e11, e3, e4, e5, e6, e9, e10, hA, hT, hL, ↓wA, wC, Ex.ends, evR, oneOf, top, ↓reduceIte, Nat.reduceEqDiff, Nat.reduceLeDiff, Nat.reduceAdd, Nat.reduceSub, Nat.reduceMul, reduceCtorEq, Int.reduceEq, Int.reduceLT, Int.reduceLE, Int.reduceNeg]
    refine callK_intro (has_ctr c _ _ (H.ext e0) false true false false) ?_
    rintro x g1 ⟨rfl, hx1⟩
    obtain ⟨b1, s1⟩ := step _ g1 e0 b0 hx1
    obtain ⟨n1, c1⟩ := b1
    have b1 := And.intro n1 c1
    have hA1 := (Ha.ext s1).len
    have hT1 := (Ht.ext s1).len
    have hL1 := (Hl.ext s1).len
    cases q1 : hasB c false true false false with
    | false =>
      have hf : OwnR c = false := by rw [hO]; grind
      simp +contextual only [e1, e12, e2, e11, e3, e4, e5, e6, e9, e10, c1, hA1, hT1, hL1, hf, ↓wA, wC, Ex.ends, evR, oneOf, top, ↓reduceIte, Nat.reduceEqDiff, Nat.reduceLeDiff, Nat.reduceAdd, Nat.reduceSub, Nat.reduceMul, reduceCtorEq, Int.reduceEq, Int.reduceLT, Int.reduceLE, Int.reduceNeg]
      exact s1
    | true =>
    simp +contextual only [e1, e12, e2, e11, e3, e4, e5, e6, e9, e10, c1, hA1, hT1, hL1, ↓wA, wC, Ex.ends, evR, oneOf, top, ↓reduceIte, Nat.reduceEqDiff, Nat.reduceLeDiff, Nat.reduceAdd, Nat.reduceSub, Nat.reduceMul, reduceCtorEq, Int.reduceEq, Int.reduceLT, Int.reduceLE, Int.reduceNeg]
    refine callK_pure (rvariable_pure _ _) ?_
    cases q2 : varB c.n with
    | false =>
      have hf : OwnR c = false := by rw [hO]; grind
      simp +contextual only [e1, e12, e2, e11, e3, e4, e5, e6, e9, e10, c1, hA1, hT1, hL1, hf, ↓wA, wC, Ex.ends, evR, oneOf, top, ↓reduceIte, Nat.reduceEqDiff, Nat.reduceLeDiff, Nat.reduceAdd, Nat.reduceSub, Nat.reduceMul, reduceCtorEq, Int.reduceEq, Int.reduceLT, Int.reduceLE, Int.reduceNeg]
      exact s1
    | true =>
    simp +contextual only [e1, e12, e2, e11, e3, e4, e5, e6, e9, e10, c1, hA1, hT1, hL1, ↓wA, wC, Ex.ends, evR, oneOf, top, ↓reduceIte, Nat.reduceEqDiff, Nat.reduceLeDiff, Nat.reduceAdd, Nat.reduceSub, Nat.reduceMul, reduceCtorEq, Int.reduceEq, Int.reduceLT, Int.reduceLE, Int.reduceNeg]
    by_cases ht : c.a.length ≤ 1024
    · have ht' : ((c.a.length : Int) ≤ 1024) = True := eq_true (by omega)
      simp +contextual only [e1, e12, e2, e11, e3, e4, e5, e6, e9, e10, c1, hA1, hT1, hL1, ht', ↓wA, wC, Ex.ends, evR, oneOf, top, ↓reduceIte, Nat.reduceEqDiff, Nat.reduceLeDiff, Nat.reduceAdd, Nat.reduceSub, Nat.reduceMul, reduceCtorEq, Int.reduceEq, Int.reduceLT, Int.reduceLE, Int.reduceNeg]
      refine callK_intro (ratoms_ctr c.a (c.a.length) va g1 (Ha.ext s1) (by omega)) ?_
      rintro x g2 ⟨rfl, hx2⟩
      obtain ⟨⟨n2, c2⟩, s2⟩ := step g1 g2 s1 b1 hx2
      have hL2 := (Hl.ext s2).len
      cases q3 : atomsB c.a c.a.length with
      | false =>
        have hf : OwnR c = false := by rw [hO]; grind
        simp +contextual only [e1, e12, e2, e11, e3, e4, e5, e6, e9, e10, c1, c2, hA1, hT1, hL1, hL2, ht', hf, ↓wA, wC, Ex.ends, evR, oneOf, top, ↓reduceIte, Nat.reduceEqDiff, Nat.reduceLeDiff, Nat.reduceAdd, Nat.reduceSub, Nat.reduceMul, reduceCtorEq, Int.reduceEq, Int.reduceLT, Int.reduceLE, Int.reduceNeg]
        exact s2
      | true =>
        simp +contextual only [e1, e12, e2, e11, e3, e4, e5, e6, e9, e10, c1, c2, hA1, hT1, hL1, hL2, ht', ↓wA, wC, Ex.ends, evR, oneOf, top, ↓reduceIte, Nat.reduceEqDiff, Nat.reduceLeDiff, Nat.reduceAdd, Nat.reduceSub, Nat.reduceMul, reduceCtorEq, Int.reduceEq, Int.reduceLT, Int.reduceLE, Int.reduceNeg]
        refine ⟨?_, s2⟩
        rw [hO]
        grind
    · have ht' : ((c.a.length : Int) ≤ 1024) = False := eq_false (by omega)
      have hf : OwnR c = false := by rw [hO]; grind
      simp +contextual only [e1, e12, e2, e11, e3, e4, e5, e6, e9, e10, c1, hA1, hT1, hL1, ht', hf, ↓wA, wC, Ex.ends, evR, oneOf, top, ↓reduceIte, Nat.reduceEqDiff, Nat.reduceLeDiff, Nat.reduceAdd, Nat.reduceSub, Nat.reduceMul, reduceCtorEq, Int.reduceEq, Int.reduceLT, Int.reduceLE, Int.reduceNeg]
      exact s1
  have e4 := eq_false h4
  by_cases h5 : c.k = 5
  · have e5 := eq_true h5
    have e6 : (c.k = 6) = False := eq_false (by omega)
    have e9 : (c.k = 9) = False := eq_false (by omega)
    have e10 : (c.k = 10) = False := eq_false (by omega)
    have hO : OwnR c = (hasB c false true false false && decide (0 ≤ c.n) && decide (c.n < 1024) && atomsB c.a 1 && decide (c.l.length = 0)) := by rw [OwnR]; simp only [e1, e12, e2, e11, e3, e4, e5, e6, e9, e10, if_true, if_false, true_or, or_true, false_or, or_false, decide_true, decide_false]
    simp +contextual only [e1, e12, e2, e11, e3, e4, e5, e6, e9, e10, hA, hT, hL, ↓wA, wC, Ex.ends, evR, oneOf, top, ↓reduceIte, Nat.reduceEqDiff, Nat.reduceLeDiff, Nat.reduceAdd, Nat.reduceSub, Nat.reduceMul, reduceCtorEq, Int.reduceEq, Int.reduceLT, Int.reduceLE, Int.reduceNeg]
    refine callK_intro (has_ctr c _ _ (H.ext e0) false true false false) ?_
    rintro x g1 ⟨rfl, hx1⟩
    obtain ⟨b1, s1⟩ := step _ g1 e0 b0 hx1
    obtain ⟨n1, c1⟩ := b1
    have b1 := And.intro n1 c1
    have hA1 := (Ha.ext s1).len
    have hT1 := (Ht.ext s1).len
    have hL1 := (Hl.ext s1).len
    cases q1 : hasB c false true false false with
    | false =>
      have hf : OwnR c = false := by rw [hO]; grind
      simp +contextual only [e1, e12, e2, e11, e3, e4, e5, e6, e9, e10, c1, hA1, hT1, hL1, hf, ↓wA, wC, Ex.ends, evR, oneOf, top, ↓reduceIte, Nat.reduceEqDiff, Nat.reduceLeDiff, Nat.reduceAdd, Nat.reduceSub, Nat.reduceMul, reduceCtorEq, Int.reduceEq, Int.reduceLT, Int.reduceLE, Int.reduceNeg]
      exact s1
    | true =>
    simp +contextual only [e1, e12, e2, e11, e3, e4, e5, e6, e9, e10, c1, hA1, hT1, hL1, ↓wA, wC, Ex.ends, evR, oneOf, top, ↓reduceIte, Nat.reduceEqDiff, Nat.reduceLeDiff, Nat.reduceAdd, Nat.reduceSub, Nat.reduceMul, reduceCtorEq, Int.reduceEq, Int.reduceLT, Int.reduceLE, Int.reduceNeg]
    by_cases ht : 0 ≤ c.n ∧ c.n < 1024
    · have ht1 := eq_true ht.1
      have ht2 := eq_true ht.2
      simp +contextual only [e1, e12, e2, e11, e3, e4, e5, e6, e9, e10, c1, hA1, hT1, hL1, ht1, ht2, ↓wA, wC, Ex.ends, evR, oneOf, top, ↓reduceIte, Nat.reduceEqDiff, Nat.reduceLeDiff, Nat.reduceAdd, Nat.reduceSub, Nat.reduceMul, reduceCtorEq, Int.reduceEq, Int.reduceLT, Int.reduceLE, Int.reduceNeg]
      refine callK_intro (ratoms_ctr c.a 1 va g1 (Ha.ext s1) (by omega)) ?_
      rintro x g2 ⟨rfl, hx2⟩
      obtain ⟨⟨n2, c2⟩, s2⟩ := step g1 g2 s1 b1 hx2
      have hL2 := (Hl.ext s2).len
      cases q3 : atomsB c.a 1 with
      | false =>
        have hf : OwnR c = false := by rw [hO]; grind
        simp +contextual only [e1, e12, e2, e11, e3, e4, e5, e6, e9, e10, c1, c2, hA1, hT1, hL1, hL2, ht1, ht2, hf, ↓wA, wC, Ex.ends, evR, oneOf, top, ↓reduceIte, Nat.reduceEqDiff, Nat.reduceLeDiff, Nat.reduceAdd, Nat.reduceSub, Nat.reduceMul, reduceCtorEq, Int.reduceEq, Int.reduceLT, Int.reduceLE, Int.reduceNeg]
        exact s2
      | true =>
        simp +contextual only [e1, e12, e2, e11, e3, e4, e5, e6, e9, e10, c1, c2, hA1, hT1, hL1, hL2, ht1, ht2, ↓wA, wC, Ex.ends, evR, oneOf, top, ↓reduceIte, Nat.reduceEqDiff, Nat.reduceLeDiff, Nat.reduceAdd, Nat.reduceSub, Nat.reduceMul, reduceCtorEq, Int.reduceEq, Int.reduceLT, Int.reduceLE, Int.reduceNeg]
        refine ⟨?_, s2⟩
        rw [hO]
        grind
    · have hf : OwnR c = false := by rw [hO]; grind
      by_cases ht1 : 0 ≤ c.n
      · have ht1' := eq_true ht1
        have ht2' : (c.n < 1024) = False := eq_false (by omega)
        simp +contextual only [e1, e12, e2, e11, e3, e4, e5, e6, e9, e10, c1, hA1, hT1, hL1, ht1', ht2', hf, ↓wA, wC, Ex.ends, evR, oneOf, top, ↓reduceIte, Nat.reduceEqDiff, Nat.reduceLeDiff, Nat.reduceAdd, Nat.reduceSub, Nat.reduceMul, reduceCtorEq, Int.reduceEq, Int.reduceLT, Int.reduceLE, Int.reduceNeg]
        exact s1
      · have ht1' := eq_false ht1
        simp +contextual only [e1, e12, e2, e11, e3, e4, e5, e6, e9, e10, c1, hA1, hT1, hL1, ht1', hf, ↓wA, wC, Ex.ends, evR, oneOf, top, ↓reduceIte, Nat.reduceEqDiff, Nat.reduceLeDiff, Nat.reduceAdd, Nat.reduceSub, Nat.reduceMul, reduceCtorEq, Int.reduceEq, Int.reduceLT, Int.reduceLE, Int.reduceNeg]
        exact s1
  have e5 := eq_false h5
  by_cases h6 : c.k = 6
  · have e6 := eq_true h6
    have e9 : (c.k = 9) = False := eq_false (by omega)
    have e10 : (c.k = 10) = False := eq_false (by omega)
    have hO : OwnR c = (hasB c false false false false && atomsB c.a 2 && decide (c.l.length = 0)) := by rw [OwnR]; simp only [e1, e12, e2, e11, e3, e4, e5, e6, e9, e10, if_true, if_false, true_or, or_true, false_or, or_false, decide_true, decide_false]
    simp +contextual only [e1, e12, e2, e11, e3, e4, e5, e6, e9, e10, hA, hT, hL, ↓wA, wC, Ex.ends, evR, oneOf, top, ↓reduceIte, Nat.reduceEqDiff, Nat.reduceLeDiff, Nat.reduceAdd, Nat.reduceSub, Nat.reduceMul, reduceCtorEq, Int.reduceEq, Int.reduceLT, Int.reduceLE, Int.reduceNeg]
    refine callK_intro (has_ctr c _ _ (H.ext e0) false false false false) ?_
    rintro x g1 ⟨rfl, hx1⟩
    obtain ⟨b1, s1⟩ := step _ g1 e0 b0 hx1
    obtain ⟨n1, c1⟩ := b1
    have b1 := And.intro n1 c1
    have hA1 := (Ha.ext s1).len
    have hT1 := (Ht.ext s1).len
    have hL1 := (Hl.ext s1).len
    cases q1 : hasB c false false false false with
    | false =>
      have hf : OwnR c = false := by rw [hO]; grind
      simp +contextual only [e1, e12, e2, e11, e3, e4, e5, e6, e9, e10, c1, hA1, hT1, hL1, hf, ↓wA, wC, Ex.ends, evR, oneOf, top, ↓reduceIte, Nat.reduceEqDiff, Nat.reduceLeDiff, Nat.reduceAdd, Nat.reduceSub, Nat.reduceMul, reduceCtorEq, Int.reduceEq, Int.reduceLT, Int.reduceLE, Int.reduceNeg]
      exact s1
    | true =>
    simp +contextual only [e1, e12, e2, e11, e3, e4, e5, e6, e9, e10, c1, hA1, hT1, hL1, ↓wA, wC, Ex.ends, evR, oneOf, top, ↓reduceIte, Nat.reduceEqDiff, Nat.reduceLeDiff, Nat.reduceAdd, Nat.reduceSub, Nat.reduceMul, reduceCtorEq, Int.reduceEq, Int.reduceLT, Int.reduceLE, Int.reduceNeg]
    refine callK_intro (ratoms_ctr c.a (2) va g1 (Ha.ext s1) (by omega)) ?_
    rintro x g2 ⟨rfl, hx2⟩
    obtain ⟨b2, s2⟩ := step _ g2 s1 b1 hx2
    obtain ⟨n2, c2⟩ := b2
    have b2 := And.intro n2 c2
    have hA2 := (Ha.ext s2).len
    have hT2 := (Ht.ext s2).len
    have hL2 := (Hl.ext s2).len
    cases q2 : atomsB c.a (2) with
    | false =>
      have hf : OwnR c = false := by rw [hO]; grind
      simp +contextual only [e1, e12, e2, e11, e3, e4, e5, e6, e9, e10, c2, hA2, hT2, hL2, hf, ↓wA, wC, Ex.ends, evR, oneOf, top, ↓reduceIte, Nat.reduceEqDiff, Nat.reduceLeDiff, Nat.reduceAdd, Nat.reduceSub, Nat.reduceMul, reduceCtorEq, Int.reduceEq, Int.reduceLT, Int.reduceLE, Int.reduceNeg]
      exact s2
    | true =>
    simp +contextual only [e1, e12, e2, e11, e3, e4, e5, e6, e9, e10, c2, hA2, hT2, hL2, ↓wA, wC, Ex.ends, evR, oneOf, top, ↓reduceIte, Nat.reduceEqDiff, Nat.reduceLeDiff, Nat.reduceAdd, Nat.reduceSub, Nat.reduceMul, reduceCtorEq, Int.reduceEq, Int.reduceLT, Int.reduceLE, Int.reduceNeg]
    refine ⟨?_, s2⟩
    rw [hO]
    grind
  have e6 := eq_false h6
  by_cases h9 : c.k = 9
  · have e9 := eq_true h9
    have e10 : (c.k = 10) = False := eq_false (by omega)
    have hO : OwnR c = (hasB c false false false true && atomsB c.a 1 && tagsB (decide (c.k = 10)) c.t && fitsR c) := by rw [OwnR]; simp only [e1, e12, e2, e11, e3, e4, e5, e6, e9, e10, if_true, if_false, true_or, or_true, false_or, or_false, decide_true, decide_false]
    have wt : IntKind.i64.wrap ((c.t.length : Int) + 1) = (c.t.length : Int) + 1 := by rw [wrap_i64 (by omega) (by omega)]
    have hfit : (decide (1 ≤ (c.l.length : Int)) && (decide ((c.l.length : Int) = c.t.length) || decide ((c.l.length : Int) = c.t.length + 1))) = fitsR c := rfl
    simp +contextual only [wt, hfit, e1, e12, e2, e11, e3, e4, e5, e6, e9, e10, hA, hT, hL, ↓wA, wC, Ex.ends, evR, oneOf, top, ↓reduceIte, Nat.reduceEqDiff, Nat.reduceLeDiff, Nat.reduceAdd, Nat.reduceSub, Nat.reduceMul, reduceCtorEq, Int.reduceEq, Int.reduceLT, Int.reduceLE, Int.reduceNeg]
    refine callK_intro (has_ctr c _ _ (H.ext e0) false false false true) ?_
    rintro x g1 ⟨rfl, hx1⟩
    obtain ⟨⟨n1, c1⟩, s1⟩ := step _ g1 e0 b0 hx1
    have b1 := And.intro n1 c1
    have hA1 := (Ha.ext s1).len
    have hT1 := (Ht.ext s1).len
    have hL1 := (Hl.ext s1).len
    cases q1 : hasB c false false false true with
    | false =>
      have hf : OwnR c = false := by rw [hO]; grind
      simp +contextual only [e1, e12, e2, e11, e3, e4, e5, e6, e9, e10, c1, hA1, hT1, hL1, hf, ↓wA, wC, Ex.ends, evR, oneOf, top, ↓reduceIte, Nat.reduceEqDiff, Nat.reduceLeDiff, Nat.reduceAdd, Nat.reduceSub, Nat.reduceMul, reduceCtorEq, Int.reduceEq, Int.reduceLT, Int.reduceLE, Int.reduceNeg]
      exact s1
    | true =>
    simp +contextual only [e1, e12, e2, e11, e3, e4, e5, e6, e9, e10, c1, hA1, hT1, hL1, ↓wA, wC, Ex.ends, evR, oneOf, top, ↓reduceIte, Nat.reduceEqDiff, Nat.reduceLeDiff, Nat.reduceAdd, Nat.reduceSub, Nat.reduceMul, reduceCtorEq, Int.reduceEq, Int.reduceLT, Int.reduceLE, Int.reduceNeg]
    refine callK_intro (ratoms_ctr c.a 1 va g1 (Ha.ext s1) (by omega)) ?_
    rintro x g2 ⟨rfl, hx2⟩
    obtain ⟨⟨n2, c2⟩, s2⟩ := step g1 g2 s1 b1 hx2
    have hT2 := (Ht.ext s2).len
    cases q2 : atomsB c.a 1 with
    | false =>
      have hf : OwnR c = false := by rw [hO]; grind
      simp +contextual only [e1, e12, e2, e11, e3, e4, e5, e6, e9, e10, c2, hT2, hf, ↓wA, wC, Ex.ends, evR, oneOf, top, ↓reduceIte, Nat.reduceEqDiff, Nat.reduceLeDiff, Nat.reduceAdd, Nat.reduceSub, Nat.reduceMul, reduceCtorEq, Int.reduceEq, Int.reduceLT, Int.reduceLE, Int.reduceNeg]
      exact s2
    | true =>
    simp +contextual only [e1, e12, e2, e11, e3, e4, e5, e6, e9, e10, c2, hT2, ↓wA, wC, Ex.ends, evR, oneOf, top, ↓reduceIte, Nat.reduceEqDiff, Nat.reduceLeDiff, Nat.reduceAdd, Nat.reduceSub, Nat.reduceMul, reduceCtorEq, Int.reduceEq, Int.reduceLT, Int.reduceLE, Int.reduceNeg]
    refine callK_pure (rtags_ctr false c.t vt g2 (Ht.ext s2) (by omega)) ?_
    simp only [e10, decide_true, decide_false] at hO
    cases q3 : tagsB false c.t with
    | false =>
      have hf : OwnR c = false := by rw [hO]; grind
      simp +contextual only [e1, e12, e2, e11, e3, e4, e5, e6, e9, e10, c2, hT2, hf, ↓wA, wC, Ex.ends, evR, oneOf, top, ↓reduceIte, Nat.reduceEqDiff, Nat.reduceLeDiff, Nat.reduceAdd, Nat.reduceSub, Nat.reduceMul, reduceCtorEq, Int.reduceEq, Int.reduceLT, Int.reduceLE, Int.reduceNeg]
      exact s2
    | true =>
    simp +contextual only [e1, e12, e2, e11, e3, e4, e5, e6, e9, e10, c2, hT2, ↓wA, wC, Ex.ends, evR, oneOf, top, ↓reduceIte, Nat.reduceEqDiff, Nat.reduceLeDiff, Nat.reduceAdd, Nat.reduceSub, Nat.reduceMul, reduceCtorEq, Int.reduceEq, Int.reduceLT, Int.reduceLE, Int.reduceNeg]
    refine ⟨?_, s2⟩
    rw [hO]
    grind
  have e9 := eq_false h9
  by_cases h10 : c.k = 10
  · have e10 := eq_true h10
    have hO : OwnR c = (hasB c false false false true && atomsB c.a 1 && tagsB (decide (c.k = 10)) c.t && fitsR c) := by rw [OwnR]; simp only [e1, e12, e2, e11, e3, e4, e5, e6, e9, e10, if_true, if_false, true_or, or_true, false_or, or_false, decide_true, decide_false]
    have wt : IntKind.i64.wrap ((c.t.length : Int) + 1) = (c.t.length : Int) + 1 := by rw [wrap_i64 (by omega) (by omega)]
    have hfit : (decide (1 ≤ (c.l.length : Int)) && (decide ((c.l.length : Int) = c.t.length) || decide ((c.l.length : Int) = c.t.length + 1))) = fitsR c := rfl
    simp +contextual only [wt, hfit, e1, e12, e2, e11, e3, e4, e5, e6, e9, e10, hA, hT, hL, ↓wA, wC, Ex.ends, evR, oneOf, top, ↓reduceIte, Nat.reduceEqDiff, Nat.reduceLeDiff, Nat.reduceAdd, Nat.reduceSub, Nat.reduceMul, reduceCtorEq, Int.reduceEq, Int.reduceLT, Int.reduceLE, Int.reduceNeg]
    refine callK_intro (has_ctr c _ _ (H.ext e0) false false false true) ?_
    rintro x g1 ⟨rfl, hx1⟩
    obtain ⟨⟨n1, c1⟩, s1⟩ := step _ g1 e0 b0 hx1
    have b1 := And.intro n1 c1
    have hA1 := (Ha.ext s1).len
    have hT1 := (Ht.ext s1).len
    have hL1 := (Hl.ext s1).len
    cases q1 : hasB c false false false true with
    | false =>
      have hf : OwnR c = false := by rw [hO]; grind
      simp +contextual only [e1, e12, e2, e11, e3, e4, e5, e6, e9, e10, c1, hA1, hT1, hL1, hf, ↓wA, wC, Ex.ends, evR, oneOf, top, ↓reduceIte, Nat.reduceEqDiff, Nat.reduceLeDiff, Nat.reduceAdd, Nat.reduceSub, Nat.reduceMul, reduceCtorEq, Int.reduceEq, Int.reduceLT, Int.reduceLE, Int.reduceNeg]
      exact s1
    | true =>
    simp +contextual only [e1, e12, e2, e11, e3, e4, e5, e6, e9, e10, c1, hA1, hT1, hL1, ↓wA, wC, Ex.ends, evR, oneOf, top, ↓reduceIte, Nat.reduceEqDiff, Nat.reduceLeDiff, Nat.reduceAdd, Nat.reduceSub, Nat.reduceMul, reduceCtorEq, Int.reduceEq, Int.reduceLT, Int.reduceLE, Int.reduceNeg]
    refine callK_intro (ratoms_ctr c.a 1 va g1 (Ha.ext s1) (by omega)) ?_
    rintro x g2 ⟨rfl, hx2⟩
    obtain ⟨⟨n2, c2⟩, s2⟩ := step g1 g2 s1 b1 hx2
    have hT2 := (Ht.ext s2).len
    cases q2 : atomsB c.a 1 with
    | false =>
      have hf : OwnR c = false := by rw [hO]; grind
      simp +contextual only [e1, e12, e2, e11, e3, e4, e5, e6, e9, e10, c2, hT2, hf, ↓wA, wC, Ex.ends, evR, oneOf, top, ↓reduceIte, Nat.reduceEqDiff, Nat.reduceLeDiff, Nat.reduceAdd, Nat.reduceSub, Nat.reduceMul, reduceCtorEq, Int.reduceEq, Int.reduceLT, Int.reduceLE, Int.reduceNeg]
      exact s2
    | true =>
    simp +contextual only [e1, e12, e2, e11, e3, e4, e5, e6, e9, e10, c2, hT2, ↓wA, wC, Ex.ends, evR, oneOf, top, ↓reduceIte, Nat.reduceEqDiff, Nat.reduceLeDiff, Nat.reduceAdd, Nat.reduceSub, Nat.reduceMul, reduceCtorEq, Int.reduceEq, Int.reduceLT, Int.reduceLE, Int.reduceNeg]
    refine callK_pure (rtags_ctr true c.t vt g2 (Ht.ext s2) (by omega)) ?_
    simp only [e10, decide_true, decide_false] at hO
    cases q3 : tagsB true c.t with
    | false =>
      have hf : OwnR c = false := by rw [hO]; grind
      simp +contextual only [e1, e12, e2, e11, e3, e4, e5, e6, e9, e10, c2, hT2, hf, ↓wA, wC, Ex.ends, evR, oneOf, top, ↓reduceIte, Nat.reduceEqDiff, Nat.reduceLeDiff, Nat.reduceAdd, Nat.reduceSub, Nat.reduceMul, reduceCtorEq, Int.reduceEq, Int.reduceLT, Int.reduceLE, Int.reduceNeg]
      exact s2
    | true =>
    simp +contextual only [e1, e12, e2, e11, e3, e4, e5, e6, e9, e10, c2, hT2, ↓wA, wC, Ex.ends, evR, oneOf, top, ↓reduceIte, Nat.reduceEqDiff, Nat.reduceLeDiff, Nat.reduceAdd, Nat.reduceSub, Nat.reduceMul, reduceCtorEq, Int.reduceEq, Int.reduceLT, Int.reduceLE, Int.reduceNeg]
    refine ⟨?_, s2⟩
    rw [hO]
    grind
  have e10 := eq_false h10
  have hf : OwnR c = false := by rw [OwnR]; simp only [e1, e12, e2, e11, e3, e4, e5, e6, e9, e10, if_false, or_self]
  simp +contextual only [e1, e12, e2, e11, e3, e4, e5, e6, e9, e10, hA, hT, hL, hf, ↓wA, wC, Ex.ends, evR, oneOf, top, ↓reduceIte, Nat.reduceEqDiff, Nat.reduceLeDiff, Nat.reduceAdd, Nat.reduceSub, Nat.reduceMul, reduceCtorEq, Int.reduceEq, Int.reduceLT, Int.reduceLE, Int.reduceNeg]
  exact e0
theorem rfun_ctr (b : Bool) (c : Co) (vs : List V) (h : Heap) (H : CoIn h c vs) : Ctr Tryz.prog 70 [.agg vs, .bool b] h fun x h' => x = .bool (funR c b) ∧ Ext h h' := by
  obtain ⟨va, vt, vl, rfl, Ha, Ht, Hl⟩ := H.open
  refine c70_ctr rfl (wpK_of ?_)
  unfold c70
  have e0 : Ext h (h.new (.ofL [.int .i64 c.k, .int .i64 c.x, .int .i64 c.n, .str c.s, va, vt, vl] 0 false)) := (Ext.refl h).new _
  have hO : funR c b = (decide (c.k = 7) && hasB c true b false false && varB c.x && (!b || varB c.n) && decide (c.a.length = 0) && decide (c.l.length = 1)) := rfl
  by_cases h7 : c.k = 7
  · have e7 := eq_true h7
    simp +contextual only [e7, ↓wA, wC, Ex.ends, evR, oneOf, top, ↓reduceIte, Nat.reduceEqDiff, Nat.reduceLeDiff, Nat.reduceAdd, Nat.reduceSub, Nat.reduceMul, reduceCtorEq, Int.reduceEq, Int.reduceLT, Int.reduceLE, Int.reduceNeg]
    refine callK_intro (has_ctr c _ _ (H.ext e0) true b false false) ?_
    rintro x g1 ⟨rfl, hx1⟩
    have c1 : g1.get (pa h.next) = .ofL [.int .i64 c.k, .int .i64 c.x, .int .i64 c.n, .str c.s, va, vt, vl] 0 false := by rw [hx1.get _ (old_lt (by rw [next_new]; omega)), get_new_self]
    have s1 := e0.trans hx1
    have hA1 := (Ha.ext s1).len
    have hL1 := (Hl.ext s1).len
    cases q1 : hasB c true b false false with
    | false =>
      have hf : funR c b = false := by rw [hO]; grind
      simp +contextual only [e7, c1, hf, ↓wA, wC, Ex.ends, evR, oneOf, top, ↓reduceIte, Nat.reduceEqDiff, Nat.reduceLeDiff, Nat.reduceAdd, Nat.reduceSub, Nat.reduceMul, reduceCtorEq, Int.reduceEq, Int.reduceLT, Int.reduceLE, Int.reduceNeg]
      exact s1
    | true =>
    simp +contextual only [e7, c1, ↓wA, wC, Ex.ends, evR, oneOf, top, ↓reduceIte, Nat.reduceEqDiff, Nat.reduceLeDiff, Nat.reduceAdd, Nat.reduceSub, Nat.reduceMul, reduceCtorEq, Int.reduceEq, Int.reduceLT, Int.reduceLE, Int.reduceNeg]
    refine callK_pure (rvariable_pure _ _) ?_
    cases q2 : varB c.x with
    | false =>
      have hf : funR c b = false := by rw [hO]; grind
      simp +contextual only [e7, c1, hf, ↓wA, wC, Ex.ends, evR, oneOf, top, ↓reduceIte, Nat.reduceEqDiff, Nat.reduceLeDiff, Nat.reduceAdd, Nat.reduceSub, Nat.reduceMul, reduceCtorEq, Int.reduceEq, Int.reduceLT, Int.reduceLE, Int.reduceNeg]
      exact s1
    | true =>
    cases b with
    | false =>
      simp +contextual only [e7, c1, hA1, hL1, Bool.not_false, ↓wA, wC, Ex.ends, evR, oneOf, top, ↓reduceIte, Nat.reduceEqDiff, Nat.reduceLeDiff, Nat.reduceAdd, Nat.reduceSub, Nat.reduceMul, reduceCtorEq, Int.reduceEq, Int.reduceLT, Int.reduceLE, Int.reduceNeg]
      refine ⟨?_, s1⟩
      rw [hO]
      grind
    | true =>
      simp +contextual only [e7, c1, hA1, hL1, Bool.not_true, ↓wA, wC, Ex.ends, evR, oneOf, top, ↓reduceIte, Nat.reduceEqDiff, Nat.reduceLeDiff, Nat.reduceAdd, Nat.reduceSub, Nat.reduceMul, reduceCtorEq, Int.reduceEq, Int.reduceLT, Int.reduceLE, Int.reduceNeg]
      refine callK_pure (rvariable_pure _ _) ?_
      cases q3 : varB c.n with
      | false =>
        have hf : funR c true = false := by rw [hO]; grind
        simp +contextual only [e7, c1, hA1, hL1, hf, ↓wA, wC, Ex.ends, evR, oneOf, top, ↓reduceIte, Nat.reduceEqDiff, Nat.reduceLeDiff, Nat.reduceAdd, Nat.reduceSub, Nat.reduceMul, reduceCtorEq, Int.reduceEq, Int.reduceLT, Int.reduceLE, Int.reduceNeg]
        exact s1
      | true =>
      simp +contextual only [e7, c1, hA1, hL1, ↓wA, wC, Ex.ends, evR, oneOf, top, ↓reduceIte, Nat.reduceEqDiff, Nat.reduceLeDiff, Nat.reduceAdd, Nat.reduceSub, Nat.reduceMul, reduceCtorEq, Int.reduceEq, Int.reduceLT, Int.reduceLE, Int.reduceNeg]
      refine ⟨?_, s1⟩
      rw [hO]
      grind
  · have e7 := eq_false h7
    have hf : funR c b = false := by rw [hO]; grind
    simp +contextual only [e7, hf, ↓wA, wC, Ex.ends, evR, oneOf, top, ↓reduceIte, Nat.reduceEqDiff, Nat.reduceLeDiff, Nat.reduceAdd, Nat.reduceSub, Nat.reduceMul, reduceCtorEq, Int.reduceEq, Int.reduceLT, Int.reduceLE, Int.reduceNeg]
    exact e0
end Go.Proofs.YtjbiefneffiogaaGreat

namespace Go.Proofs.YtjbiefneffiogaaGreat
open Go Am
theorem bare_has (c : Co) : bareB c = (hasB c false false false false && decide (c.a.length = 0)) := by
  have e2 : decide (c.a = []) = decide (c.a.length = 0) := by rw [decide_eq_decide, List.length_eq_zero_iff]
  simp only [bareB, hasB, Bool.false_or, e2]
theorem mayKid_eqR (c : Co) (h : 0 < c.l.length) : mayKid ownR c = may ownR c.l[0] := by
  obtain ⟨k, x, n, s, a, t, l⟩ := c
  cases l with
  | nil => simp [Co.l] at h
  | cons d l => simp only [mayKid, mayHead, Co.l, List.getElem_cons_zero]
theorem own_fun {c : Co} : (decide (c.k = 7) && ownR true c) = funR c true := by
  simp only [ownR, if_true]
  by_cases h : c.k = 7
  · simp [h]
  · simp [h, funR]
theorem fun_kid {c : Co} {b : Bool} (h : funR c b = true) : c.l.length = 1 := by
  simp only [funR, Bool.and_eq_true] at h
  exact of_decide_eq_true h.2
set_option maxHeartbeats 2000000 in
theorem rmay_ctr : ∀ (N : Nat) (c : Co), size c ≤ N → fit 1048576 c → ∀ (vs : List V) (h : Heap), CoIn h c vs → Ctr Tryz.prog 47 [.agg vs] h fun x h' => x = .bool (may ownR c) ∧ Ext h h'
  | 0, c, hs, _, _, _, _ => by have := size_pos c; omega
  | N + 1, c, hs, hf, vs, h, H => by
    obtain ⟨f1, f2, f3, f4, f5⟩ := hf.kids
    have hsl := size_l c
    have kid : ∀ (i : Nat) (d : Co) (g : Heap) (u : List V), c.l[i]? = some d → CoIn g d u → Ctr Tryz.prog 47 [.agg u] g fun x h' => x = .bool (may ownR d) ∧ Ext g h' :=
      fun i d g u hi hu => rmay_ctr N d (by have := size_idx hi; omega) (fits_at f5 hi) u g hu
    obtain ⟨va, vt, vl, rfl, Ha, Ht, Hl⟩ := H.open
    refine c47_ctr rfl (wpK_of ?_)
    unfold c47
    have e0 : Ext h (h.new (.ofL [.int .i64 c.k, .int .i64 c.x, .int .i64 c.n, .str c.s, va, vt, vl] 0 false)) := (Ext.refl h).new _
    by_cases hk : c.k = 8
    · have hk' := eq_true hk
      have hM := may_8 (own := ownR) hk
      rw [bare_has] at hM
      simp +contextual only [hk', ↓wA, wC, Ex.ends, evR, oneOf, top, ↓reduceIte, Nat.reduceEqDiff, Nat.reduceLeDiff, Nat.reduceAdd, Nat.reduceSub, Nat.reduceMul, reduceCtorEq, Int.reduceEq, Int.reduceLT, Int.reduceLE, Int.reduceNeg]
      refine callK_intro (has_ctr c _ _ (H.ext e0) false false false false) ?_
      rintro x g1 ⟨rfl, hx1⟩
      have hn1 : h.next < g1.next := by have := hx1.next; rw [next_new] at this; omega
      have c1 : g1.get (pa h.next) = .ofL [.int .i64 c.k, .int .i64 c.x, .int .i64 c.n, .str c.s, va, vt, vl] 0 false := by rw [hx1.get _ (old_lt (by rw [next_new]; omega)), get_new_self]
      have s1 := e0.trans hx1
      have hA1 := (Ha.ext s1).len
      have hL1 := (Hl.ext s1).len
      cases hbad : (!hasB c false false false false || decide (0 < (c.a.length : Int)) || decide ((c.l.length : Int) < 2)) with
      | true =>
        have hf : may ownR c = false := by rw [hM]; grind
        cases hq : hasB c false false false false with
        | false =>
          simp +contextual only [c1, hA1, hL1, hf, ↓wA, wC, Ex.ends, evR, oneOf, top, ↓reduceIte, Nat.reduceEqDiff, Nat.reduceLeDiff, Nat.reduceAdd, Nat.reduceSub, Nat.reduceMul, reduceCtorEq, Int.reduceEq, Int.reduceLT, Int.reduceLE, Int.reduceNeg]
          exact s1
        | true =>
          rw [hq, Bool.not_true, Bool.false_or] at hbad
          simp +contextual only [c1, hA1, hL1, hbad, hf, ↓wA, wC, Ex.ends, evR, oneOf, top, ↓reduceIte, Nat.reduceEqDiff, Nat.reduceLeDiff, Nat.reduceAdd, Nat.reduceSub, Nat.reduceMul, reduceCtorEq, Int.reduceEq, Int.reduceLT, Int.reduceLE, Int.reduceNeg]
          exact s1
      | false =>
        have hgood : may ownR c = mayRec ownR c.l := by rw [hM]; grind
        have hlen : 2 ≤ c.l.length := by grind
        have hq : hasB c false false false false = true := by grind
        rw [hq, Bool.not_true, Bool.false_or] at hbad
        have w0 : IntKind.i64.wrap ((c.l.length : Int) - 1) = ((c.l.length - 1 : Nat) : Int) := by rw [wrap_i64 (by omega) (by omega)]; omega
        simp +contextual only [hq, c1, hA1, hL1, hbad, ↓wA, wC, Ex.ends, evR, oneOf, top, ↓reduceIte, Nat.reduceEqDiff, Nat.reduceLeDiff, Nat.reduceAdd, Nat.reduceSub, Nat.reduceMul, reduceCtorEq, Int.reduceEq, Int.reduceLT, Int.reduceLE, Int.reduceNeg]
        refine loopK_intro (fun r h' => Ext h h' ∧ h'.get (pa h.next) = .ofL [.int .i64 c.k, .int .i64 c.x, .int .i64 c.n, .str c.s, va, vt, vl] 0 false ∧ h.next < h'.next ∧ r 1 = .ptr (pa h.next) 0 ∧
          ∃ i : Nat, r 3 = .int .i64 i ∧ i ≤ c.l.length - 1 ∧ mayRec ownR c.l = mayRec ownR (c.l.drop i)) (fun r h' => c.l.length - (r 3).toN) ?_ ?_
        · exact ⟨s1, c1, hn1, by simp only [↓wA, wC, ↓reduceIte, Nat.reduceEqDiff, reduceCtorEq], 0, by simp only [↓wA, wC, ↓reduceIte, Nat.reduceEqDiff, reduceCtorEq] <;> rfl, by omega, rfl⟩
        · rintro r h' ⟨hx, hb, hn, r1, i, r3, hi, hok⟩
          unfold c47l1
          have hL := (Hl.ext hx).len
          by_cases hlt : i < c.l.length - 1
          · have g0 : ((i : Int) < ((c.l.length - 1 : Nat) : Int)) = True := eq_true (by omega)
            have hlt2 : i < c.l.length := by omega
            obtain ⟨b, o, u, ia, hu, ld, ldc⟩ := (Hl.ext hx).at (k := .i64) hlt2
            rw [mayRec_drop (by omega), own_fun] at hok
            generalize hfd : c.l[i] = f at *
            have hfi : c.l[i]? = some f := by rw [List.getElem?_eq_getElem hlt2, hfd]
            have w := w_inc hlt2 (by omega)
            obtain ⟨ff1, ff2, ff3, ff4, ff5⟩ := (fits_at f5 hfi).kids
            simp +contextual only [r1, r3, hb, hL, w0, g0, ia, ld, ↓wA, wC, Ex.ends, evR, oneOf, top, ↓reduceIte, Nat.reduceEqDiff, Nat.reduceLeDiff, Nat.reduceAdd, Nat.reduceSub, Nat.reduceMul, reduceCtorEq, Int.reduceEq, Int.reduceLT, Int.reduceLE, Int.reduceNeg]
            refine callK_intro (rfun_ctr true f u h' hu) ?_
            rintro x g2 ⟨rfl, hx2⟩
            have hb2 : g2.get (pa h.next) = .ofL [.int .i64 c.k, .int .i64 c.x, .int .i64 c.n, .str c.s, va, vt, vl] 0 false := by rw [hx2.get _ (old_lt hn)]; exact hb
            cases ho : funR f true with
            | false =>
              have hf0 : may ownR c = false := by rw [hgood, hok, ho, Bool.false_and, Bool.false_and]
              simp +contextual only [hb2, hf0, ↓wA, wC, Ex.ends, evR, oneOf, top, ↓reduceIte, Nat.reduceEqDiff, Nat.reduceLeDiff, Nat.reduceAdd, Nat.reduceSub, Nat.reduceMul, reduceCtorEq, Int.reduceEq, Int.reduceLT, Int.reduceLE, Int.reduceNeg]
              exact hx.trans hx2
            | true =>
              have hl1 := fun_kid ho
              obtain ⟨b3, o3, u3, ia3, hu3, ld3, ldc3⟩ := (Hl.ext (hx.trans hx2)).at (k := .i64) hlt2
              rw [hfd] at hu3
              obtain ⟨fa, ft, fl, rfl, Fa, Ft, Fl⟩ := hu3.open
              have l6 := ldc3 6 (by omega)
              rw [show ([V.int .i64 f.k, .int .i64 f.x, .int .i64 f.n, .str f.s, fa, ft, fl])[6]? = some fl from rfl] at l6
              obtain ⟨b', o', u', ia', hu', ld', _⟩ := Fl.at (k := .i64) (i := 0) (by omega)
              have ia0 : iaV 7 fl (.int .i64 0) = some (.ptr b' o') := by simpa using ia'
              have ld0 : ldnB 7 (g2.get b') o' = some (.agg u') := by simpa using ld'
              have hg0 : f.l[0]? = some f.l[0] := List.getElem?_eq_getElem (by omega)
              simp +contextual only [r1, r3, hb2, ia3, l6, ia0, ld0, ↓wA, wC, Ex.ends, evR, oneOf, top, ↓reduceIte, Nat.reduceEqDiff, Nat.reduceLeDiff, Nat.reduceAdd, Nat.reduceSub, Nat.reduceMul, reduceCtorEq, Int.reduceEq, Int.reduceLT, Int.reduceLE, Int.reduceNeg]
              refine callK_intro (rmay_ctr N f.l[0] (by have := size_idx hfi; have := size_idx hg0; have := size_l f; omega) (fits_at ff5 hg0) u' g2 hu') ?_
              rintro x g3 ⟨rfl, hx3⟩
              have hx23 := hx2.trans hx3
              rw [mayKid_eqR f (by omega)] at hok
              cases hm : may ownR f.l[0] with
              | false =>
                have hf0 : may ownR c = false := by rw [hgood, hok, hm, Bool.and_false, Bool.false_and]
                simp +contextual only [hf0, ↓wA, wC, Ex.ends, evR, oneOf, top, ↓reduceIte, Nat.reduceEqDiff, Nat.reduceLeDiff, Nat.reduceAdd, Nat.reduceSub, Nat.reduceMul, reduceCtorEq, Int.reduceEq, Int.reduceLT, Int.reduceLE, Int.reduceNeg]
                exact hx.trans hx23
              | true =>
                simp +contextual only [r1, r3, w, ↓wA, wC, Ex.ends, evR, oneOf, top, ↓reduceIte, Nat.reduceEqDiff, Nat.reduceLeDiff, Nat.reduceAdd, Nat.reduceSub, Nat.reduceMul, reduceCtorEq, Int.reduceEq, Int.reduceLT, Int.reduceLE, Int.reduceNeg]
                exact ⟨⟨hx.trans hx23, by rw [hx23.get _ (old_lt hn)]; exact hb, by have := hx23.next; omega, ⟨i + 1, rfl, by omega, by rw [hok, ho, hm]; rfl⟩⟩, by omega⟩
          · have g0 : ((i : Int) < ((c.l.length - 1 : Nat) : Int)) = False := eq_false (by omega)
            obtain rfl : i = c.l.length - 1 := by omega
            obtain ⟨b, o, u, ia, hu, ld, _⟩ := (Hl.ext hx).at (k := .i64) (i := c.l.length - 1) (by omega)
            simp +contextual only [r1, r3, hb, hL, w0, g0, ia, ld, ↓wA, wC, Ex.ends, evR, oneOf, top, ↓reduceIte, Nat.reduceEqDiff, Nat.reduceLeDiff, Nat.reduceAdd, Nat.reduceSub, Nat.reduceMul, reduceCtorEq, Int.reduceEq, Int.reduceLT, Int.reduceLE, Int.reduceNeg]
            refine callK_intro (kid (c.l.length - 1) _ h' u (List.getElem?_eq_getElem (by omega)) hu) ?_
            rintro x g2 ⟨rfl, hx2⟩
            have hf0 : may ownR c = may ownR (c.l[c.l.length - 1]'(by omega)) := by rw [hgood, hok, mayRec_last (by omega)]
            simp +contextual only [hf0, ↓wA, wC, Ex.ends, evR, oneOf, top, ↓reduceIte, Nat.reduceEqDiff, Nat.reduceLeDiff, Nat.reduceAdd, Nat.reduceSub, Nat.reduceMul, reduceCtorEq, Int.reduceEq, Int.reduceLT, Int.reduceLE, Int.reduceNeg]
            exact hx.trans hx2
    · have hk' := eq_false hk
      have hM := may_ne8 (own := ownR) hk
      have hO : ownR false c = (OwnR c || funR c false) := rfl
      simp +contextual only [hk', ↓wA, wC, Ex.ends, evR, oneOf, top, ↓reduceIte, Nat.reduceEqDiff, Nat.reduceLeDiff, Nat.reduceAdd, Nat.reduceSub, Nat.reduceMul, reduceCtorEq, Int.reduceEq, Int.reduceLT, Int.reduceLE, Int.reduceNeg]
      refine callK_intro (rown_ctr c _ _ (H.ext e0) (by omega) (by omega) (by omega)) ?_
      rintro x g1 ⟨rfl, hx1⟩
      have s1 := e0.trans hx1
      have hn1 : h.next < g1.next := by have := hx1.next; rw [next_new] at this; omega
      have c1 : g1.get (pa h.next) = .ofL [.int .i64 c.k, .int .i64 c.x, .int .i64 c.n, .str c.s, va, vt, vl] 0 false := by rw [hx1.get _ (old_lt (by rw [next_new]; omega)), get_new_self]
      have rest : ∀ (g : Heap) (r : RF), Ext h g → g.get (pa h.next) = .ofL [.int .i64 c.k, .int .i64 c.x, .int .i64 c.n, .str c.s, va, vt, vl] 0 false → h.next < g.next → r 1 = .ptr (pa h.next) 0 → r 4 = .int .i64 0 → may ownR c = mays ownR c.l →
          ∀ (ks : List KS) (Q : Ex → RF → Heap → Prop), (∀ g' r', Ext h g' → mays ownR c.l = true → wpK Tryz.prog ks (.exit 2) r' g' Q) → (∀ g' r', Ext h g' → mays ownR c.l = false → r' 2 = .bool false → wpK Tryz.prog ks .ret r' g' Q) → loopK Tryz.prog c47l2 ks r g Q := by
        intro g r s cc hn q1 q4 hall ks Q hT hF
        refine loopK_intro (fun r h' => Ext h h' ∧ h'.get (pa h.next) = .ofL [.int .i64 c.k, .int .i64 c.x, .int .i64 c.n, .str c.s, va, vt, vl] 0 false ∧ h.next < h'.next ∧ r 1 = .ptr (pa h.next) 0 ∧
          ∃ i : Nat, r 4 = .int .i64 i ∧ i ≤ c.l.length ∧ mays ownR c.l = mays ownR (c.l.drop i)) (fun r h' => c.l.length - (r 4).toN) ?_ ?_
        · exact ⟨s, cc, hn, q1, 0, by rw [q4]; rfl, by omega, rfl⟩
        · rintro r h' ⟨hx, hb, hn, r1, i, r4, hi, hok⟩
          unfold c47l2
          have hL := (Hl.ext hx).len
          by_cases hlt : i < c.l.length
          · have g0 : ((i : Int) < (c.l.length : Int)) = True := eq_true (by omega)
            obtain ⟨b, o, u, ia, hu, ld, _⟩ := (Hl.ext hx).at (k := .i64) hlt
            rw [List.drop_eq_getElem_cons hlt, mays] at hok
            have w := w_inc hlt (by omega)
            simp +contextual only [r1, r4, hb, hL, g0, ia, ld, ↓wA, wC, Ex.ends, evR, oneOf, top, ↓reduceIte, Nat.reduceEqDiff, Nat.reduceLeDiff, Nat.reduceAdd, Nat.reduceSub, Nat.reduceMul, reduceCtorEq, Int.reduceEq, Int.reduceLT, Int.reduceLE, Int.reduceNeg]
            refine callK_intro (kid i _ h' u (List.getElem?_eq_getElem hlt) hu) ?_
            rintro x g2 ⟨rfl, hx2⟩
            cases hm : may ownR c.l[i] with
            | false =>
              simp +contextual only [↓wA, wC, Ex.ends, evR, oneOf, top, ↓reduceIte, Nat.reduceEqDiff, Nat.reduceLeDiff, Nat.reduceAdd, Nat.reduceSub, Nat.reduceMul, reduceCtorEq, Int.reduceEq, Int.reduceLT, Int.reduceLE, Int.reduceNeg]
              exact hF _ _ (hx.trans hx2) (by rw [hok, hm]; rfl) (by simp only [↓wA, wC, ↓reduceIte, Nat.reduceEqDiff, reduceCtorEq])
            | true =>
              simp +contextual only [r1, r4, w, ↓wA, wC, Ex.ends, evR, oneOf, top, ↓reduceIte, Nat.reduceEqDiff, Nat.reduceLeDiff, Nat.reduceAdd, Nat.reduceSub, Nat.reduceMul, reduceCtorEq, Int.reduceEq, Int.reduceLT, Int.reduceLE, Int.reduceNeg]
              exact ⟨⟨hx.trans hx2, by rw [hx2.get _ (old_lt hn)]; exact hb, by have := hx2.next; omega, ⟨i + 1, rfl, hlt, by rw [hok, hm, Bool.true_and]⟩⟩, by omega⟩
          · have g0 : ((i : Int) < (c.l.length : Int)) = False := eq_false (by omega)
            rw [List.drop_eq_nil_of_le (by omega)] at hok
            simp +contextual only [r1, r4, hb, hL, g0, ↓wA, wC, Ex.ends, evR, oneOf, top, ↓reduceIte, Nat.reduceEqDiff, Nat.reduceLeDiff, Nat.reduceAdd, Nat.reduceSub, Nat.reduceMul, reduceCtorEq, Int.reduceEq, Int.reduceLT, Int.reduceLE, Int.reduceNeg]
            exact hT _ _ hx (by rw [hok]; rfl)
      cases ho : OwnR c with
      | true =>
        have hall : may ownR c = mays ownR c.l := by rw [hM, hO, ho]; rfl
        simp +contextual only [c1, ↓wA, wC, Ex.ends, evR, oneOf, top, ↓reduceIte, Nat.reduceEqDiff, Nat.reduceLeDiff, Nat.reduceAdd, Nat.reduceSub, Nat.reduceMul, reduceCtorEq, Int.reduceEq, Int.reduceLT, Int.reduceLE, Int.reduceNeg]
        refine rest g1 _ s1 c1 hn1 (by simp only [↓wA, wC, ↓reduceIte, Nat.reduceEqDiff, reduceCtorEq]) (by simp only [↓wA, wC, ↓reduceIte, Nat.reduceEqDiff, reduceCtorEq]) hall _ _ ?_ ?_
        · intro g' r' hx' hm
          simp +contextual only [hall, hm, ↓wA, wC, Ex.ends, evR, oneOf, top, ↓reduceIte, Nat.reduceEqDiff, Nat.reduceLeDiff, Nat.reduceAdd, Nat.reduceSub, Nat.reduceMul, reduceCtorEq, Int.reduceEq, Int.reduceLT, Int.reduceLE, Int.reduceNeg]
          exact hx'
        · intro g' r' hx' hm q2
          simp +contextual only [hall, hm, q2, ↓wA, wC, Ex.ends, evR, oneOf, top, ↓reduceIte, Nat.reduceEqDiff, Nat.reduceLeDiff, Nat.reduceAdd, Nat.reduceSub, Nat.reduceMul, reduceCtorEq, Int.reduceEq, Int.reduceLT, Int.reduceLE, Int.reduceNeg]
          exact hx'
      | false =>
        simp +contextual only [c1, ↓wA, wC, Ex.ends, evR, oneOf, top, ↓reduceIte, Nat.reduceEqDiff, Nat.reduceLeDiff, Nat.reduceAdd, Nat.reduceSub, Nat.reduceMul, reduceCtorEq, Int.reduceEq, Int.reduceLT, Int.reduceLE, Int.reduceNeg]
        refine callK_intro (rfun_ctr false c _ g1 (H.ext s1)) ?_
        rintro x g2 ⟨rfl, hx2⟩
        have s2 := s1.trans hx2
        have hn2 : h.next < g2.next := by have := hx2.next; omega
        have c2 : g2.get (pa h.next) = .ofL [.int .i64 c.k, .int .i64 c.x, .int .i64 c.n, .str c.s, va, vt, vl] 0 false := by rw [hx2.get _ (old_lt hn1)]; exact c1
        cases hfu : funR c false with
        | false =>
          have hf0 : may ownR c = false := by rw [hM, hO, ho, hfu]; rfl
          simp +contextual only [c2, hf0, ↓wA, wC, Ex.ends, evR, oneOf, top, ↓reduceIte, Nat.reduceEqDiff, Nat.reduceLeDiff, Nat.reduceAdd, Nat.reduceSub, Nat.reduceMul, reduceCtorEq, Int.reduceEq, Int.reduceLT, Int.reduceLE, Int.reduceNeg]
          exact s2
        | true =>
          have hall : may ownR c = mays ownR c.l := by rw [hM, hO, ho, hfu]; rfl
          simp +contextual only [c2, ↓wA, wC, Ex.ends, evR, oneOf, top, ↓reduceIte, Nat.reduceEqDiff, Nat.reduceLeDiff, Nat.reduceAdd, Nat.reduceSub, Nat.reduceMul, reduceCtorEq, Int.reduceEq, Int.reduceLT, Int.reduceLE, Int.reduceNeg]
          refine rest g2 _ s2 c2 hn2 (by simp only [↓wA, wC, ↓reduceIte, Nat.reduceEqDiff, reduceCtorEq]) (by simp only [↓wA, wC, ↓reduceIte, Nat.reduceEqDiff, reduceCtorEq]) hall _ _ ?_ ?_
          · intro g' r' hx' hm
            simp +contextual only [hall, hm, ↓wA, wC, Ex.ends, evR, oneOf, top, ↓reduceIte, Nat.reduceEqDiff, Nat.reduceLeDiff, Nat.reduceAdd, Nat.reduceSub, Nat.reduceMul, reduceCtorEq, Int.reduceEq, Int.reduceLT, Int.reduceLE, Int.reduceNeg]
            exact hx'
          · intro g' r' hx' hm q2
            simp +contextual only [hall, hm, q2, ↓wA, wC, Ex.ends, evR, oneOf, top, ↓reduceIte, Nat.reduceEqDiff, Nat.reduceLeDiff, Nat.reduceAdd, Nat.reduceSub, Nat.reduceMul, reduceCtorEq, Int.reduceEq, Int.reduceLT, Int.reduceLE, Int.reduceNeg]
            exact hx'
end Go.Proofs.YtjbiefneffiogaaGreat

namespace Go.Proofs.YtjbiefneffiogaaGreat
open Go Am
theorem intsV_app (l m : List Int) : intsV (l ++ m) = intsV l ++ intsV m := by simp [intsV]
theorem intsV_ones (l : List Int) : ones (intsV l) = true := by
  induction l with
  | nil => rfl
  | cons x l ih => exact ih
theorem one_int (h : Heap) (x : Int) (B : Nat) (hB : B ≤ h.next) : SlO B (h.new (.ofL [.int .i64 x] 0 false)) 1 (.slice (pa h.next) 0 1 1) 1 (intsV [x]) :=
  ⟨rfl, rfl, by rw [unPa_pa]; exact hB, old_lt (by rw [next_new]; omega), Nat.le_refl _, by unfold top; omega, [.int .i64 x], 0, false, get_new_self _, by simp, rfl⟩
theorem binds_ctr (c : Co) (vs : List V) (h : Heap) (H : CoIn h c vs) (hf : fit 1048576 c) (h8 : c.k = 8 → 1 ≤ c.l.length) (h14 : c.k ≠ 14) :
    Ctr Tryz.prog 65 [.agg vs] h fun x h' => SlO (h.next + 1) h' 1 x (ownNames c.k c.x c.l).length (intsV (ownNames c.k c.x c.l)) ∧ Ext h h' := by
  obtain ⟨f1, f2, f3, f4, f5⟩ := hf.kids
  obtain ⟨va, vt, vl, rfl, Ha, Ht, Hl⟩ := H.open
  refine c65_ctr rfl (wpK_of ?_)
  unfold c65
  have e0 : Ext h (h.new (.ofL [.int .i64 c.k, .int .i64 c.x, .int .i64 c.n, .str c.s, va, vt, vl] 0 false)) := (Ext.refl h).new _
  have e14 := eq_false h14
  by_cases h7 : c.k = 7
  · have e7 := eq_true h7
    simp +contextual only [e7, ↓wA, wC, Ex.ends, evR, oneOf, top, ↓reduceIte, Nat.reduceEqDiff, Nat.reduceLeDiff, Nat.reduceAdd, Nat.reduceSub, Nat.reduceMul, reduceCtorEq, Int.reduceEq, Int.reduceLT, Int.reduceLE, Int.reduceNeg]
    rw [show ownNames c.k c.x c.l = [c.x] from by rw [ownNames, if_pos h7]]
    exact ⟨one_int (h.new (.ofL [.int .i64 c.k, .int .i64 c.x, .int .i64 c.n, .str c.s, va, vt, vl] 0 false)) c.x _ (by rw [next_new]; omega), e0.new _⟩
  have e7 := eq_false h7
  by_cases hk : c.k = 8
  · have e8 := eq_true hk
    have hl1 := h8 hk
    have hL := (Hl.ext e0).len
    have w0 : IntKind.i64.wrap ((c.l.length : Int) - 1) = ((c.l.length - 1 : Nat) : Int) := by rw [wrap_i64 (by omega) (by omega)]; omega
    obtain ⟨v', cut1, cut2⟩ := (Hl.ext e0).cut (k := .i64) (m := c.l.length - 1) (by omega)
    have hL' := cut2.len
    rw [List.length_take, Nat.min_eq_left (Nat.sub_le _ _)] at hL'
    simp +contextual only [e7, e8, hL, w0, cut1, hL', ↓wA, wC, Ex.ends, evR, oneOf, top, ↓reduceIte, Nat.reduceEqDiff, Nat.reduceLeDiff, Nat.reduceAdd, Nat.reduceSub, Nat.reduceMul, reduceCtorEq, Int.reduceEq, Int.reduceLT, Int.reduceLE, Int.reduceNeg]
    have hown : ownNames c.k c.x c.l = c.l.dropLast.map Co.n := by rw [ownNames, if_neg h7, if_pos hk]
    refine loopK_intro (fun r h' => Ext (h.new (.ofL [.int .i64 c.k, .int .i64 c.x, .int .i64 c.n, .str c.s, va, vt, vl] 0 false)) h' ∧ r 23 = v' ∧ r 24 = .int .i64 ((c.l.length - 1 : Nat) : Int) ∧
      ∃ (i : Nat) (v : V), r 25 = .int .i64 i ∧ i ≤ c.l.length - 1 ∧ r 3 = v ∧ SlO (h.next + 1) h' 1 v i (intsV ((c.l.take i).map Co.n))) (fun r h' => c.l.length - (r 25).toN) ?_ ?_
    · exact ⟨Ext.refl _, by simp only [↓wA, wC, ↓reduceIte, Nat.reduceEqDiff, reduceCtorEq], by simp only [↓wA, wC, ↓reduceIte, Nat.reduceEqDiff, reduceCtorEq], 0, .nilslice, by simp only [↓wA, wC, ↓reduceIte, Nat.reduceEqDiff, reduceCtorEq] <;> rfl, by omega, by simp only [↓wA, wC, ↓reduceIte, Nat.reduceEqDiff, reduceCtorEq], ⟨rfl, rfl⟩⟩
    · rintro r h' ⟨hx, r23, r24, i, v, r25, hi, r3, hv⟩
      unfold c65l1
      by_cases hlt : i < c.l.length - 1
      · have g0 : ((i : Int) < ((c.l.length - 1 : Nat) : Int)) = True := eq_true (by omega)
        have hlt2 : i < c.l.length := by omega
        have hlt3 : i < (c.l.take (c.l.length - 1)).length := by rw [List.length_take]; omega
        obtain ⟨b, o, u, ia, hu, ld, _⟩ := (cut2.ext hx).at (k := .i64) hlt3
        rw [List.getElem_take] at hu
        have htk : (c.l.take (i + 1)).map Co.n = (c.l.take i).map Co.n ++ [c.l[i].n] := by rw [List.take_add_one, List.getElem?_eq_getElem hlt2, List.map_append]; rfl
        generalize hfd : c.l[i] = f at *
        obtain ⟨fa, ft, fl, rfl, Fa, Ft, Fl⟩ := hu.open
        have w := w_inc hlt2 (by omega)
        have o1 := Fa.one.1
        have o2 := Ft.one.1
        have o3 := Fl.one.1
        have hx1 : Ext h' ((h'.new (.ofL [.int .i64 0, .int .i64 0, .int .i64 0, .str [], .nilslice, .nilslice, .nilslice] 0 false)).set (pa h'.next) (.ofL [.int .i64 f.k, .int .i64 f.x, .int .i64 f.n, .str f.s, fa, ft, fl] 0 false)) := ((Ext.refl h').new _).set (Nat.le_refl _) _
        have hnn := hx.next
        rw [next_new] at hnn
        have gn : ((h'.new (.ofL [.int .i64 0, .int .i64 0, .int .i64 0, .str [], .nilslice, .nilslice, .nilslice] 0 false)).set (pa h'.next) (.ofL [.int .i64 f.k, .int .i64 f.x, .int .i64 f.n, .str f.s, fa, ft, fl] 0 false)).next = h'.next + 1 := by rw [next_set, next_new]
        simp +contextual only [r3, r23, r24, r25, g0, ia, ld, o1, o2, o3, Bool.and_self, ↓wA, wC, Ex.ends, evR, oneOf, top, ↓reduceIte, Nat.reduceEqDiff, Nat.reduceLeDiff, Nat.reduceAdd, Nat.reduceSub, Nat.reduceMul, reduceCtorEq, Int.reduceEq, Int.reduceLT, Int.reduceLE, Int.reduceNeg]
        obtain ⟨v3, h3, q1, q2, q3, q4, q5⟩ := app_one (cs := [.int .i64 f.n]) (by omega) (hv.ext hx1) (by rw [gn]; omega) (by unfold top; omega) rfl rfl
        rw [gn] at q1
        simp +contextual only [q1, r23, r24, r25, w, ↓wA, wC, Ex.ends, evR, oneOf, top, ↓reduceIte, Nat.reduceEqDiff, Nat.reduceLeDiff, Nat.reduceAdd, Nat.reduceSub, Nat.reduceMul, reduceCtorEq, Int.reduceEq, Int.reduceLT, Int.reduceLE, Int.reduceNeg]
        have hx3 : Ext (h.new (.ofL [.int .i64 c.k, .int .i64 c.x, .int .i64 c.n, .str c.s, va, vt, vl] 0 false)) h3 := (hx.trans hx1).mod_new q3 (fun b hb => by rw [next_new]; exact hv.base hb)
        exact ⟨⟨hx3, ⟨i + 1, v3, rfl, by omega, rfl, by rw [htk, intsV_app]; exact q2⟩⟩, by omega⟩
      · have g0 : ((i : Int) < ((c.l.length - 1 : Nat) : Int)) = False := eq_false (by omega)
        obtain rfl : i = c.l.length - 1 := by omega
        simp +contextual only [r3, r23, r24, r25, g0, ↓wA, wC, Ex.ends, evR, oneOf, top, ↓reduceIte, Nat.reduceEqDiff, Nat.reduceLeDiff, Nat.reduceAdd, Nat.reduceSub, Nat.reduceMul, reduceCtorEq, Int.reduceEq, Int.reduceLT, Int.reduceLE, Int.reduceNeg]
        rw [hown, List.dropLast_eq_take, List.length_map, List.length_take, Nat.min_eq_left (Nat.sub_le _ _)]
        exact ⟨hv, e0.trans hx⟩
  · have e8 := eq_false hk
    simp +contextual only [e7, e8, e14, ↓wA, wC, Ex.ends, evR, oneOf, top, ↓reduceIte, Nat.reduceEqDiff, Nat.reduceLeDiff, Nat.reduceAdd, Nat.reduceSub, Nat.reduceMul, reduceCtorEq, Int.reduceEq, Int.reduceLT, Int.reduceLE, Int.reduceNeg]
    rw [show ownNames c.k c.x c.l = [] from by rw [ownNames, if_neg h7, if_neg hk]]
    exact ⟨⟨rfl, rfl⟩, e0⟩
end Go.Proofs.YtjbiefneffiogaaGreat

namespace Go.Proofs.YtjbiefneffiogaaGreat
open Go Am
theorem Mod_next {M N : Pa → Prop} {h h1 h2 : Heap} (m : Mod M h h1) (e : Mod N h1 h2) (hN : ∀ b, Old h b → N b → M b) : Mod M h h2 :=
  ⟨Nat.le_trans m.next e.next, fun b hb hm => (e.get b (m.old hb) (fun q => hm (hN b hb q))).trans (m.get b hb hm)⟩
structure OutS (g : FuncId) (hb h : Heap) (po pg : Pa) (acc : List Int) (vo : V) : Prop where
  ext : Ext hb h
  hpo : h.get po = .ofL [vo] 0 false
  hpg : h.get pg = .ofL [.func g [.ptr po 0, .ptr pg 0]] 0 false
  opo : Old h po
  opg : Old h pg
  npo : hb.next ≤ unPa po
  npg : hb.next ≤ unPa pg
  ne : po ≠ pg
  own : SlO hb.next h 1 vo acc.length (intsV acc)
  nbo : ∀ b, vo.blk b → b ≠ po ∧ b ≠ pg
theorem OutS.keep {g : FuncId} {hb h h' : Heap} {po pg : Pa} {acc : List Int} {vo : V} (O : OutS g hb h po pg acc vo) (e : Ext h h') : OutS g hb h' po pg acc vo :=
  ⟨O.ext.trans e, by rw [e.get _ O.opo]; exact O.hpo, by rw [e.get _ O.opg]; exact O.hpg, e.old O.opo, e.old O.opg, O.npo, O.npg, O.ne, O.own.ext e, O.nbo⟩
theorem OutS.push {g : FuncId} {hb h h3 : Heap} {po pg : Pa} {acc m : List Int} {vo v3 : V} (O : OutS g hb h po pg acc vo) (q2 : SlO hb.next h3 1 v3 (acc.length + m.length) (intsV acc ++ intsV m)) (q3 : Mod vo.blk h h3) (q5 : ∀ b, v3.blk b → vo.blk b ∨ h.next ≤ unPa b) :
    OutS g hb (h3.set po (.ofL [v3] 0 false)) po pg (acc ++ m) v3 ∧ Mod (fun b => b = po ∨ vo.blk b) h (h3.set po (.ofL [v3] 0 false)) := by
  have hmod : Mod (fun b => b = po ∨ vo.blk b) h (h3.set po (.ofL [v3] 0 false)) := (q3.mono fun b _ hb => .inr hb).set (fun _ => .inl rfl) _
  have hext : Ext hb (h3.set po (.ofL [v3] 0 false)) := O.ext.mod_new hmod (fun b hb => by
    rcases hb with rfl | hb
    · exact O.npo
    · exact O.own.base hb)
  have v3n : ∀ b, v3.blk b → b ≠ po ∧ b ≠ pg := by
    intro b hb
    rcases q5 b hb with q | q
    · exact O.nbo b q
    · have h1 := O.opo
      have h2 := O.opg
      unfold Old at h1 h2
      exact ⟨fun e => by rw [e] at q; omega, fun e => by rw [e] at q; omega⟩
  refine ⟨⟨hext, by rw [get_set, if_pos rfl], ?_, ?_, ?_, O.npo, O.npg, O.ne, ?_, v3n⟩, hmod⟩
  · rw [get_set, if_neg O.ne, q3.get _ O.opg (fun q => (O.nbo _ q).2 rfl)]; exact O.hpg
  · exact q3.old O.opo
  · exact q3.old O.opg
  · rw [List.length_append, intsV_app]
    exact q2.mod (M := fun b => b = po) ((Mod.refl (fun b => b = po) h3).set (b := po) (fun _ => rfl) (.ofL [v3] 0 false)) (fun b hb => (v3n b hb).1)
theorem orders_len (N : Nat) (ih : ∀ c : Co, size c ≤ N → (order c).length + 1 ≤ 3 * size c) (late : Bool) (x : Int) : ∀ (l : List Co) (i : Nat), (∀ d ∈ l, size d ≤ N) → (orders late x l i).length + l.length ≤ 3 * sizes l + (if late = true ∧ i ≤ 1 then 1 else 0)
  | [], i, _ => by simp [orders]
  | d :: l, i, hd => by
    have h1 := ih d (hd d (by simp))
    have h2 := orders_len N ih late x l (i + 1) (fun e he => hd e (by simp [he]))
    simp only [orders, sizes, List.length_append, List.length_cons]
    by_cases hc : late = true
    · subst hc
      by_cases h0 : i = 0
      · subst h0
        simp at h2 ⊢
        omega
      · by_cases h1' : i = 1
        · subst h1'
          simp at h2 ⊢
          omega
        · have e1 : (i == 1) = false := by simpa using h1'
          have e2 : ¬ (i ≤ 1) := by omega
          have e3 : ¬ (i + 1 ≤ 1) := by omega
          simp [e1, e2, h0] at h2 ⊢
          omega
    · have : late = false := by simpa using hc
      subst this
      simp at h2 ⊢
      omega
theorem order_len' : ∀ (N : Nat) (c : Co), size c ≤ N → (order c).length + 1 ≤ 3 * size c
  | 0, c, h => by have := size_pos c; omega
  | N + 1, c, h => by
    obtain ⟨k, x, n, s, a, t, l⟩ := c
    simp only [size] at h ⊢
    have h1 := orders_len N (order_len' N) (lateB k) x l 0 (fun d hd => by have := size_mem hd; omega)
    simp only [order, List.length_append]
    by_cases h7 : k = 7
    · subst h7
      have e1 : (ownNames 7 x l).length = 1 := rfl
      have e2 : lateB 7 = false := rfl
      rw [e2] at h1 ⊢
      simp at h1
      omega
    · by_cases h8 : k = 8
      · subst h8
        have e1 : (ownNames 8 x l).length ≤ l.length := by rw [ownNames, if_neg (by decide), if_pos rfl, List.length_map, List.length_dropLast]; omega
        have e2 : lateB 8 = false := rfl
        rw [e2] at h1 ⊢
        simp at h1
        omega
      · have e1 : (ownNames k x l).length = 0 := by rw [ownNames, if_neg h7, if_neg h8]; rfl
        have e3 : (if lateB k = true ∧ 0 ≤ 1 then 1 else 0) ≤ 1 := by split <;> omega
        omega
theorem order_len (c : Co) : (order c).length ≤ 3 * size c := by have := order_len' _ c (Nat.le_refl _); omega
theorem oks_at : ∀ {l : List Co} {i : Nat} {c : Co}, oks l → l[i]? = some c → okC c
  | [], _, _, _, h => by simp at h
  | d :: l, 0, c, hf, h => by simp only [List.getElem?_cons_zero, Option.some.injEq] at h; subst h; exact hf.1
  | d :: l, i + 1, c, hf, h => oks_at hf.2 (by simpa using h)
theorem order1_ctr : ∀ (N : Nat) (c : Co), size c ≤ N → fit 1048576 c → okC c → ∀ (vs : List V) (hb : Heap), CoIn hb c vs → ∀ (h : Heap) (po pg : Pa) (acc : List Int) (vo : V), OutS 64 hb h po pg acc vo → acc.length + (order c).length ≤ 8000000 →
    Ctr Tryz.prog 64 [.agg vs, .ptr po 0, .ptr pg 0] h fun x h' => ∃ vo', OutS 64 hb h' po pg (acc ++ order c) vo' ∧ (∀ b, vo'.blk b → vo.blk b ∨ h.next ≤ unPa b) ∧ Mod (fun b => b = po ∨ vo.blk b) h h'
  | 0, c, hs, _, _, _, _, _, _, _, _, _, _, _, _ => by have := size_pos c; omega
  | N + 1, c, hs, hf, hok, vs, hb, H, h, po, pg, acc, vo, O, hl => by
    obtain ⟨f1, f2, f3, f4, f5⟩ := hf.kids
    have hsl := size_l c
    obtain ⟨va, vt, vl, rfl, Ha, Ht, Hl⟩ := H.open
    have H' := H
    refine c64_ctr rfl (wpK_of ?_)
    unfold c64
    have e0 : Ext h (h.new (.ofL [.int .i64 c.k, .int .i64 c.x, .int .i64 c.n, .str c.s, va, vt, vl] 0 false)) := (Ext.refl h).new _
    have O0 := O.keep e0
    simp +contextual only [O0.hpo, ↓wA, wC, Ex.ends, evR, oneOf, top, ↓reduceIte, Nat.reduceEqDiff, Nat.reduceLeDiff, Nat.reduceAdd, Nat.reduceSub, Nat.reduceMul, reduceCtorEq, Int.reduceEq, Int.reduceLT, Int.reduceLE, Int.reduceNeg]
    have hok' : (c.k = 8 → 1 ≤ c.l.length) ∧ c.k ≠ 14 ∧ (lateB c.k = true → c.l.length = 2) ∧ oks c.l := by cases c; exact hok
    obtain ⟨k1, k2, k3, k4⟩ := hok'
    refine callK_intro (binds_ctr c _ _ (H.ext (O.ext.trans e0)) hf k1 k2) ?_
    rintro x g1 ⟨hown, hx1⟩
    have O1 := O0.keep hx1
    have hxg := e0.trans hx1
    have gn1 : h.next < g1.next := by have := hx1.next; rw [next_new] at this; omega
    have c1 : g1.get (pa h.next) = .ofL [.int .i64 c.k, .int .i64 c.x, .int .i64 c.n, .str c.s, va, vt, vl] 0 false := by rw [hx1.get _ (old_lt (by rw [next_new]; omega)), get_new_self]
    have holen := order_len c
    have hown_len : (ownNames c.k c.x c.l).length ≤ (order c).length := by
      cases c
      simp only [order, List.length_append, Co.k, Co.x, Co.l]
      omega
    obtain ⟨v3, h3, q1, q2, q3, q5⟩ := app_own (by omega) O1.own hown.v (O1.ext.next) (by unfold top; omega) (intsV_ones _)
    obtain ⟨O3, m3⟩ := O1.push q2 q3 q5
    have hopo : unPa po < h.next := O.opo
    have hov : ∀ b, vo.blk b → unPa b < h.next := fun b hb => O.own.v.old hb
    have hpone : (pa h.next = po) = False := eq_false (fun e => by rw [← e, unPa_pa] at hopo; omega)
    have c3 : (h3.set po (.ofL [v3] 0 false)).get (pa h.next) = .ofL [.int .i64 c.k, .int .i64 c.x, .int .i64 c.n, .str c.s, va, vt, vl] 0 false := by
      have hn : ¬ (pa h.next = po ∨ vo.blk (pa h.next)) := by
        rintro (e | e)
        · exact hpone.mp e
        · have := hov _ e
          rw [unPa_pa] at this
          omega
      rw [m3.get _ (old_lt gn1) hn]
      exact c1
    have h3po : h3.get po = .ofL [vo] 0 false := by rw [q3.get _ O1.opo (fun q => (O.nbo _ q).1 rfl)]; exact O1.hpo
    have hv3o : v3.one = true := q2.v.one.1
    have hv3c : v3.cells = [v3] := q2.v.one.2.1
    have hL3 := (Hl.ext O3.ext).len
    simp +contextual only [O0.hpo, O1.hpo, h3po, c1, c3, q1, hv3o, hv3c, hL3, ↓wA, wC, Ex.ends, evR, oneOf, top, ↓reduceIte, Nat.reduceEqDiff, Nat.reduceLeDiff, Nat.reduceAdd, Nat.reduceSub, Nat.reduceMul, reduceCtorEq, Int.reduceEq, Int.reduceLT, Int.reduceLE, Int.reduceNeg]
    generalize h3.set po (.ofL [v3] 0 false) = G3 at *
    have q5' : ∀ b, v3.blk b → vo.blk b ∨ h.next ≤ unPa b := fun b hb => (q5 b hb).imp id (fun q => by omega)
    have m3' : Mod (fun b => b = po ∨ vo.blk b) h G3 := (hxg.mod _).trans m3
    have gn3 : h.next < G3.next := by have := m3.next; omega
    have hpg' : unPa pg < h.next := O.opg
    refine loopK_intro (fun r h' => r 1 = .ptr po 0 ∧ r 2 = .ptr pg 0 ∧ r 3 = .ptr (pa h.next) 0 ∧ r 11 = vl ∧ r 12 = .int .i64 c.l.length ∧ h.next < h'.next ∧ h'.get (pa h.next) = .ofL [.int .i64 c.k, .int .i64 c.x, .int .i64 c.n, .str c.s, va, vt, vl] 0 false ∧ Mod (fun b => b = po ∨ vo.blk b) h h' ∧
      ∃ (i : Nat) (done : List Int) (w : V), r 13 = .int .i64 i ∧ i ≤ c.l.length ∧ OutS 64 hb h' po pg done w ∧ (∀ b, w.blk b → (vo.blk b ∨ h.next ≤ unPa b) ∧ b ≠ pa h.next) ∧ done ++ orders (lateB c.k) c.x (c.l.drop i) i = acc ++ order c) (fun r h' => c.l.length - (r 13).toN) ?_ ?_
    · refine ⟨by simp only [↓wA, wC, ↓reduceIte, Nat.reduceEqDiff, reduceCtorEq], by simp only [↓wA, wC, ↓reduceIte, Nat.reduceEqDiff, reduceCtorEq], by simp only [↓wA, wC, ↓reduceIte, Nat.reduceEqDiff, reduceCtorEq], by simp only [↓wA, wC, ↓reduceIte, Nat.reduceEqDiff, reduceCtorEq], by simp only [↓wA, wC, ↓reduceIte, Nat.reduceEqDiff, reduceCtorEq], gn3, c3, m3', 0, acc ++ ownNames c.k c.x c.l, v3, by simp only [↓wA, wC, ↓reduceIte, Nat.reduceEqDiff, reduceCtorEq] <;> rfl, by omega, O3, fun b hb => ⟨q5' b hb, ?_⟩, ?_⟩
      · rintro rfl
        rcases q5 _ hb with q | q
        · have := hov _ q; rw [unPa_pa] at this; omega
        · rw [unPa_pa] at q; omega
      · cases c
        simp only [order, List.append_assoc, List.drop_zero, Co.k, Co.x, Co.l]
    · rintro r h' ⟨r1, r2, r3, r11, r12, hn, hb1, hmod, i, done, w, r13, hi, Oi, hw, hdone⟩
      unfold c64l1
      by_cases hlt : i < c.l.length
      · have g0 : ((i : Int) < (c.l.length : Int)) = True := eq_true (by omega)
        obtain ⟨b, o, u, ia, hu, lds⟩ := Hl.atx (k := .i64) hlt
        have ld := (lds h' Oi.ext).1
        rw [List.drop_eq_getElem_cons hlt, orders] at hdone
        have hfi : c.l[i]? = some c.l[i] := List.getElem?_eq_getElem hlt
        generalize hfd : c.l[i] = f at *
        obtain ⟨fa, ft, fl, rfl, Fa, Ft, Fl⟩ := hu.open
        have wi := w_inc hlt (by omega)
        have o1 := Fa.one.1
        have o2 := Ft.one.1
        have o3 := Fl.one.1
        have hx1 : Ext h' ((h'.new (.ofL [.int .i64 0, .int .i64 0, .int .i64 0, .str [], .nilslice, .nilslice, .nilslice] 0 false)).set (pa h'.next) (.ofL [.int .i64 f.k, .int .i64 f.x, .int .i64 f.n, .str f.s, fa, ft, fl] 0 false)) := ((Ext.refl h').new _).set (Nat.le_refl _) _
        have gn : ((h'.new (.ofL [.int .i64 0, .int .i64 0, .int .i64 0, .str [], .nilslice, .nilslice, .nilslice] 0 false)).set (pa h'.next) (.ofL [.int .i64 f.k, .int .i64 f.x, .int .i64 f.n, .str f.s, fa, ft, fl] 0 false)).next = h'.next + 1 := by rw [next_set, next_new]
        have gb : ((h'.new (.ofL [.int .i64 0, .int .i64 0, .int .i64 0, .str [], .nilslice, .nilslice, .nilslice] 0 false)).set (pa h'.next) (.ofL [.int .i64 f.k, .int .i64 f.x, .int .i64 f.n, .str f.s, fa, ft, fl] 0 false)).get (pa h'.next) = .ofL [.int .i64 f.k, .int .i64 f.x, .int .i64 f.n, .str f.s, fa, ft, fl] 0 false := by rw [get_set, if_pos rfl]
        have nn1 : (h'.next = h.next) = False := eq_false (by omega)
        have nn2 : (h.next = h'.next) = False := eq_false (by omega)
        have nepg : (pa h'.next = pg) = False := eq_false (fun e => by rw [← e, unPa_pa] at hpg'; omega)
        have nepo : (pa h'.next = po) = False := eq_false (fun e => by rw [← e, unPa_pa] at hopo; omega)
        have hnb : ∀ (w : V), (∀ b, w.blk b → b ≠ pa h.next) → ¬ (pa h.next = po ∨ w.blk (pa h.next)) := by
          rintro w hw (e | e)
          · exact hpone.mp e
          · exact hw _ e rfl
        have after : ∀ (G : Heap) (done' : List Int) (w' : V), OutS 64 hb G po pg done' w' → h.next < G.next → G.get (pa h.next) = .ofL [.int .i64 c.k, .int .i64 c.x, .int .i64 c.n, .str c.s, va, vt, vl] 0 false → Mod (fun b => b = po ∨ vo.blk b) h G →
            (∀ b, w'.blk b → (vo.blk b ∨ h.next ≤ unPa b) ∧ b ≠ pa h.next) → done'.length + (order f).length ≤ 8000000 →
            Ctr Tryz.prog 64 [.agg [.int .i64 f.k, .int .i64 f.x, .int .i64 f.n, .str f.s, fa, ft, fl], .ptr po 0, .ptr pg 0] G fun x g2 => ∃ w2, OutS 64 hb g2 po pg (done' ++ order f) w2 ∧ h.next < g2.next ∧ g2.get (pa h.next) = .ofL [.int .i64 c.k, .int .i64 c.x, .int .i64 c.n, .str c.s, va, vt, vl] 0 false ∧ Mod (fun b => b = po ∨ vo.blk b) h g2 ∧
              (∀ b, w2.blk b → (vo.blk b ∨ h.next ≤ unPa b) ∧ b ≠ pa h.next) := by
          intro G done' w' OG hG hGb hGm hGw hGl
          refine (order1_ctr N f (by have := size_idx hfi; omega) (fits_at f5 hfi) (oks_at k4 hfi) _ hb hu G po pg done' w' OG hGl).mono ?_
          rintro x g2 ⟨w2, O2, p1, p2⟩
          refine ⟨w2, O2, by have := p2.next; omega, ?_, ?_, ?_⟩
          · rw [p2.get _ (old_lt hG) (hnb w' fun b hb => (hGw b hb).2)]; exact hGb
          · refine Mod_next hGm p2 fun b hb hN => ?_
            rcases hN with e | e
            · exact .inl e
            · rcases (hGw b e).1 with q | q
              · exact .inr q
              · unfold Old at hb; omega
          · intro b hb
            rcases p1 b hb with q | q
            · exact hGw b q
            · exact ⟨.inr (by omega), by rintro rfl; rw [unPa_pa] at q; omega⟩
        have hmG : Mod (fun b => b = po ∨ vo.blk b) h ((h'.new (.ofL [.int .i64 0, .int .i64 0, .int .i64 0, .str [], .nilslice, .nilslice, .nilslice] 0 false)).set (pa h'.next) (.ofL [.int .i64 f.k, .int .i64 f.x, .int .i64 f.n, .str f.s, fa, ft, fl] 0 false)) := Mod_next hmod (hx1.mod fun _ => False) (fun _ _ q => q.elim)
        have hbG : ((h'.new (.ofL [.int .i64 0, .int .i64 0, .int .i64 0, .str [], .nilslice, .nilslice, .nilslice] 0 false)).set (pa h'.next) (.ofL [.int .i64 f.k, .int .i64 f.x, .int .i64 f.n, .str f.s, fa, ft, fl] 0 false)).get (pa h.next) = .ofL [.int .i64 c.k, .int .i64 c.x, .int .i64 c.n, .str c.s, va, vt, vl] 0 false := by rw [hx1.get _ (old_lt hn)]; exact hb1
        have OG := Oi.keep hx1
        by_cases hlate : lateB c.k = true ∧ i = 1
        · obtain ⟨hla, rfl⟩ := hlate
          have hc1 : (if (lateB c.k && (1 : Nat) == 1) = true then [c.x] else []) = [c.x] := by
            rw [if_pos]
            rw [hla]; rfl
          rw [hc1] at hdone
          have hlen := congrArg List.length hdone
          simp only [List.length_append, List.length_cons, List.length_nil] at hlen
          have hcond : (decide (c.k = 2) || decide (c.k = 11)) = true := by simpa [lateB] using hla
          have hi1 : (((1 : Nat) : Int) = 1) = True := eq_true rfl
          obtain ⟨v3', h3', a1, a2, a3, a4, a5⟩ := app_one (cs := [.int .i64 c.x]) (by omega) OG.own OG.ext.next (by unfold top; omega) rfl rfl
          rw [gn] at a1
          obtain ⟨O3', m4⟩ := OG.push (m := [c.x]) a2 a3 (fun b hb => (a5 b hb).imp id (fun q => by omega))
          have hv3o' : v3'.one = true := a2.v.one.1
          have hv3c' : v3'.cells = [v3'] := a2.v.one.2.1
          have h3po' : h3'.get po = .ofL [w] 0 false := by rw [a3.get _ OG.opo (fun q => (Oi.nbo _ q).1 rfl)]; exact OG.hpo
          have h3pg' : h3'.get pg = .ofL [.func 64 [.ptr po 0, .ptr pg 0]] 0 false := by rw [a3.get _ OG.opg (fun q => (Oi.nbo _ q).2 rfl)]; exact OG.hpg
          have hown' : Old ((h'.new (.ofL [.int .i64 0, .int .i64 0, .int .i64 0, .str [], .nilslice, .nilslice, .nilslice] 0 false)).set (pa h'.next) (.ofL [.int .i64 f.k, .int .i64 f.x, .int .i64 f.n, .str f.s, fa, ft, fl] 0 false)) (pa h'.next) := old_lt (by rw [gn]; omega)
          have hwb : ∀ b, w.blk b → unPa b < h'.next := fun b hb => Oi.own.v.old hb
          have h3b' : h3'.get (pa h'.next) = .ofL [.int .i64 f.k, .int .i64 f.x, .int .i64 f.n, .str f.s, fa, ft, fl] 0 false := by
            rw [a3.get _ hown' (fun q => by have := hwb _ q; rw [unPa_pa] at this; omega)]; exact gb
          have h3h' : h3'.get (pa h.next) = .ofL [.int .i64 c.k, .int .i64 c.x, .int .i64 c.n, .str c.s, va, vt, vl] 0 false := by
            rw [a3.get _ (old_lt (by rw [gn]; omega)) (fun q => (hw _ q).2 rfl)]; exact hbG
          have hpone' : (po = pa h.next) = False := eq_false (fun e => hpone.mp e.symm)
          have nepo' : (po = pa h'.next) = False := eq_false (fun e => nepo.mp e.symm)
          have npp : (po = pg) = False := eq_false O.ne
          simp +contextual only [r1, r2, r3, r11, r12, r13, hb1, Oi.hpo, Oi.hpg, hi1, g0, ia, ld, o1, o2, o3, nn1, nn2, nepg, nepo, hcond, Bool.and_self, a1, hv3o', hv3c', h3po', h3pg', h3b', h3h', hpone', nepo', npp, ↓wA, wC, Ex.ends, evR, oneOf, top, ↓reduceIte, Nat.reduceEqDiff, Nat.reduceLeDiff, Nat.reduceAdd, Nat.reduceSub, Nat.reduceMul, reduceCtorEq, Int.reduceEq, Int.reduceLT, Int.reduceLE, Int.reduceNeg]
          refine callK_intro (after _ (done ++ [c.x]) v3' O3' (by rw [next_set]; have := a3.next; rw [gn] at this; omega) (by rw [get_set, if_neg (fun e => hpone'.mp e)]; exact h3h') (Mod_next hmG m4 fun b hb hN => ?_) (fun b hb => ?_) (by simp only [List.length_append, List.length_cons, List.length_nil]; omega)) ?_
          · rcases hN with e | e
            · exact .inl e
            · rcases (hw b e).1 with q | q
              · exact .inr q
              · unfold Old at hb; omega
          · rcases a5 b hb with q | q
            · exact hw b q
            · rw [gn] at q
              exact ⟨.inr (by omega), by rintro rfl; rw [unPa_pa] at q; omega⟩
          rintro x g2 ⟨w2, O2, p1, p2, p3, p4⟩
          simp +contextual only [r1, r2, r3, r11, r12, r13, wi, ↓wA, wC, Ex.ends, evR, oneOf, top, ↓reduceIte, Nat.reduceEqDiff, Nat.reduceLeDiff, Nat.reduceAdd, Nat.reduceSub, Nat.reduceMul, reduceCtorEq, Int.reduceEq, Int.reduceLT, Int.reduceLE, Int.reduceNeg]
          exact ⟨⟨p1, p2, p3, 2, done ++ [c.x] ++ order f, w2, rfl, hlt, O2, p4, by rw [← hdone]; simp only [List.append_assoc]⟩, by omega⟩
        · have hc1 : (if (lateB c.k && i == 1) = true then [c.x] else []) = ([] : List Int) := by
            rw [if_neg]
            simp only [Bool.and_eq_true, beq_iff_eq]
            exact hlate
          rw [hc1, List.nil_append] at hdone
          have hlen := congrArg List.length hdone
          simp only [List.length_append, List.length_cons, List.length_nil] at hlen
          have hcond : (decide ((i : Int) = 1) && (decide (c.k = 2) || decide (c.k = 11))) = false := by
            rw [Bool.and_eq_false_iff]
            by_cases h1 : i = 1
            · right
              have : ¬ lateB c.k = true := fun q => hlate ⟨q, h1⟩
              simpa [lateB] using this
            · left
              exact decide_eq_false (by omega)
          simp +contextual only [r1, r2, r3, r11, r12, r13, hb1, Oi.hpg, g0, ia, ld, o1, o2, o3, nn1, nn2, nepg, nepo, hcond, Bool.and_self, ↓wA, wC, Ex.ends, evR, oneOf, top, ↓reduceIte, Nat.reduceEqDiff, Nat.reduceLeDiff, Nat.reduceAdd, Nat.reduceSub, Nat.reduceMul, reduceCtorEq, Int.reduceEq, Int.reduceLT, Int.reduceLE, Int.reduceNeg]
          refine callK_intro (after _ done w OG (by rw [gn]; omega) hbG hmG hw (by omega)) ?_
          rintro x g2 ⟨w2, O2, p1, p2, p3, p4⟩
          simp +contextual only [r1, r2, r3, r11, r12, r13, wi, ↓wA, wC, Ex.ends, evR, oneOf, top, ↓reduceIte, Nat.reduceEqDiff, Nat.reduceLeDiff, Nat.reduceAdd, Nat.reduceSub, Nat.reduceMul, reduceCtorEq, Int.reduceEq, Int.reduceLT, Int.reduceLE, Int.reduceNeg]
          exact ⟨⟨p1, p2, p3, i + 1, done ++ order f, w2, rfl, hlt, O2, p4, by rw [List.append_assoc]; exact hdone⟩, by omega⟩
      · have g0 : ((i : Int) < (c.l.length : Int)) = False := eq_false (by omega)
        rw [List.drop_eq_nil_of_le (by omega), orders, List.append_nil] at hdone
        simp +contextual only [r1, r2, r3, r11, r12, r13, g0, ↓wA, wC, Ex.ends, evR, oneOf, top, ↓reduceIte, Nat.reduceEqDiff, Nat.reduceLeDiff, Nat.reduceAdd, Nat.reduceSub, Nat.reduceMul, reduceCtorEq, Int.reduceEq, Int.reduceLT, Int.reduceLE, Int.reduceNeg]
        rw [← hdone]
        exact ⟨w, Oi, fun b hb => (hw b hb).1, hmod⟩
end Go.Proofs.YtjbiefneffiogaaGreat
