/- The chapter's functions, walked by the abstract machine: plain lemmas, no condition. -/
import Derived.Test.YtjbiefneffiogaaGreatM9
import Derived.Test.YtjbiefneffiogaaGreatM7
set_option linter.unusedSectionVars false
set_option linter.unusedSimpArgs false
set_option linter.unusedVariables false

namespace Go.Proofs.YtjbiefneffiogaaGreat
open Go Am
theorem Order_ctr (c : Co) (vs : List V) (h : Heap) (H : CoIn h c vs) (hf : fit 1048576 c) (hok : okC c) (hl : (order c).length ≤ 8000000) :
    Ctr Tryz.prog 45 [.agg vs] h fun x h' => SlO h.next h' 1 x (order c).length (intsV (order c)) ∧ Ext h h' := by
  obtain ⟨va, vt, vl, rfl, Ha, Ht, Hl⟩ := H.open
  refine c45_ctr rfl (wpK_of ?_)
  unfold c45
  simp +contextual only [↓wA, wC, Ex.ends, evR, oneOf, top, ↓reduceIte, Nat.reduceEqDiff, Nat.reduceLeDiff, Nat.reduceAdd, Nat.reduceSub, Nat.reduceMul, reduceCtorEq, Int.reduceEq, Int.reduceLT, Int.reduceLE, Int.reduceNeg]
  generalize hG : ((((h.new (.ofL [.int .i64 c.k, .int .i64 c.x, .int .i64 c.n, .str c.s, va, vt, vl] 0 false)).new (.ofL [.nilslice] 0 false)).new (.ofL [.nilfunc] 0 false)).set (pa (h.next + 2)) (.ofL [.func 64 [.ptr (pa (h.next + 1)) 0, .ptr (pa (h.next + 2)) 0]] 0 false)) = G at *
  have hx : Ext h G := by rw [← hG]; exact (((Ext.refl h).new _).new _ |>.new _).set (by omega) _
  have hn : G.next = h.next + 3 := by rw [← hG]; simp only [next_set, next_new]
  have g1 : G.get (pa (h.next + 1)) = .ofL [.nilslice] 0 false := by
    rw [← hG, get_set, if_neg (by rw [pa_eq]; omega), get_new, if_neg (by simp only [next_new]; rw [pa_eq]; omega), get_new, if_pos (by simp only [next_new])]
  have g2 : G.get (pa (h.next + 2)) = .ofL [.func 64 [.ptr (pa (h.next + 1)) 0, .ptr (pa (h.next + 2)) 0]] 0 false := by rw [← hG, get_set, if_pos rfl]
  have O : OutS 64 h G (pa (h.next + 1)) (pa (h.next + 2)) [] .nilslice := ⟨hx, g1, g2, old_lt (by omega), old_lt (by omega), by rw [unPa_pa]; omega, by rw [unPa_pa]; omega, by rw [Ne, pa_eq]; omega, ⟨rfl, rfl⟩, fun b hb => hb.elim⟩
  refine callK_intro (order1_ctr (size c) c (Nat.le_refl _) hf hok _ h H G _ _ [] .nilslice O (by simpa using hl)) ?_
  rintro x h' ⟨w, O', p1, p2⟩
  rw [List.nil_append] at O'
  simp +contextual only [O'.hpo, ↓wA, wC, Ex.ends, evR, oneOf, top, ↓reduceIte, Nat.reduceEqDiff, Nat.reduceLeDiff, Nat.reduceAdd, Nat.reduceSub, Nat.reduceMul, reduceCtorEq, Int.reduceEq, Int.reduceLT, Int.reduceLE, Int.reduceNeg]
  exact ⟨O'.own, O'.ext⟩
end Go.Proofs.YtjbiefneffiogaaGreat

namespace Go.Proofs.YtjbiefneffiogaaGreat
open Go Am
theorem orders_two {x : Int} : ∀ {l : List Co} (h : l.length = 2), orders true x l 0 = order (l[0]'(by omega)) ++ [x] ++ order (l[1]'(by omega))
  | [p, q], _ => by simp [orders]
structure Grown (hb h0 : Heap) (v0 : V) (h : Heap) (l : List Int) (v : V) : Prop where
  ext : Ext hb h
  own : SlO hb.next h 1 v l.length (intsV l)
  mod : Mod v0.blk h0 h
  new : ∀ b, v.blk b → v0.blk b ∨ h0.next ≤ unPa b
theorem Grown.start {hb h : Heap} {l : List Int} {v : V} (e : Ext hb h) (o : SlO hb.next h 1 v l.length (intsV l)) : Grown hb h v h l v := ⟨e, o, Mod.refl _ _, fun b hb => .inl hb⟩
theorem Grown.keep {hb h0 h h' : Heap} {v0 v : V} {l : List Int} (G : Grown hb h0 v0 h l v) (e : Ext h h') : Grown hb h0 v0 h' l v :=
  ⟨G.ext.trans e, G.own.ext e, Mod_next G.mod (e.mod fun _ => False) (fun _ _ q => q.elim), G.new⟩
theorem Grown.off {hb h0 h : Heap} {v0 v : V} {l : List Int} (G : Grown hb h0 v0 h l v) {b : Pa} (ho : Old h0 b) (hn : ¬ v0.blk b) : ¬ v.blk b := by
  intro q
  rcases G.new b q with e | e
  · exact hn e
  · unfold Old at ho; omega
theorem Grown.step {hb h0 h h' : Heap} {v0 v v' : V} {l m : List Int} (G : Grown hb h0 v0 h l v) (q2 : SlO hb.next h' 1 v' (l.length + m.length) (intsV l ++ intsV m)) (q3 : Mod v.blk h h') (q5 : ∀ b, v'.blk b → v.blk b ∨ h.next ≤ unPa b) : Grown hb h0 v0 h' (l ++ m) v' := by
  refine ⟨G.ext.mod_new q3 (fun b hb => G.own.base hb), by rw [List.length_append, intsV_app]; exact q2, Mod_next G.mod q3 (fun b hb hq => ?_), fun b hb => ?_⟩
  · rcases G.new b hq with e | e
    · exact e
    · unfold Old at hb; omega
  · have := G.mod.next
    rcases q5 b hb with e | e
    · exact G.new b e
    · exact .inr (by omega)
theorem Grown.call {hb h0 h h' : Heap} {v0 v v' : V} {l m : List Int} (G : Grown hb h0 v0 h l v) (G' : Grown hb h v h' m v') : Grown hb h0 v0 h' m v' := by
  refine ⟨G'.ext, G'.own, Mod_next G.mod G'.mod (fun b hb hq => ?_), fun b hb => ?_⟩
  · rcases G.new b hq with e | e
    · exact e
    · unfold Old at hb; omega
  · have := G.mod.next
    rcases G'.new b hb with e | e
    · exact G.new b e
    · exact .inr (by omega)
set_option maxHeartbeats 2000000 in
theorem rorder_ctr : ∀ (N : Nat) (c : Co), size c ≤ N → fit 1048576 c → okC c → ∀ (vs : List V) (hb : Heap), CoIn hb c vs → ∀ (h : Heap) (acc : List Int) (vo : V), Ext hb h → SlO hb.next h 1 vo acc.length (intsV acc) → acc.length + (order c).length ≤ 8000000 →
    Ctr Tryz.prog 48 [.agg vs, vo] h fun x h' => Grown hb h vo h' (acc ++ order c) x
  | 0, c, hs, _, _, _, _, _, _, _, _, _, _, _ => by have := size_pos c; omega
  | N + 1, c, hs, hf, hok, vs, hb, H, h, acc, vo, hbh, hown, hl => by
    obtain ⟨f1, f2, f3, f4, f5⟩ := hf.kids
    have hsl := size_l c
    obtain ⟨va, vt, vl, rfl, Ha, Ht, Hl⟩ := H.open
    have hok' : (c.k = 8 → 1 ≤ c.l.length) ∧ c.k ≠ 14 ∧ (lateB c.k = true → c.l.length = 2) ∧ oks c.l := by cases c; exact hok
    obtain ⟨k1, k2, k3, k4⟩ := hok'
    have kid : ∀ (i : Nat) (d : Co) (u : List V) (g : Heap) (l : List Int) (w : V), c.l[i]? = some d → CoIn hb d u → Ext hb g → SlO hb.next g 1 w l.length (intsV l) → l.length + (order d).length ≤ 8000000 →
        Ctr Tryz.prog 48 [.agg u, w] g fun x h' => Grown hb g w h' (l ++ order d) x :=
      fun i d u g l w hi hu hg hw hl => rorder_ctr N d (by have := size_idx hi; omega) (fits_at f5 hi) (oks_at k4 hi) u hb hu g l w hg hw hl
    refine c48_ctr rfl (wpK_of ?_)
    unfold c48
    have e0 : Ext h (h.new (.ofL [.int .i64 c.k, .int .i64 c.x, .int .i64 c.n, .str c.s, va, vt, vl] 0 false)) := (Ext.refl h).new _
    have G0 : Grown hb h vo (h.new (.ofL [.int .i64 c.k, .int .i64 c.x, .int .i64 c.n, .str c.s, va, vt, vl] 0 false)) acc vo := (Grown.start hbh hown).keep e0
    have hvo : ∀ b, vo.blk b → unPa b < h.next := fun b hb => hown.v.old hb
    have hord : order c = ownNames c.k c.x c.l ++ orders (lateB c.k) c.x c.l 0 := by cases c; rfl
    have cb : (h.new (.ofL [.int .i64 c.k, .int .i64 c.x, .int .i64 c.n, .str c.s, va, vt, vl] 0 false)).get (pa h.next) = .ofL [.int .i64 c.k, .int .i64 c.x, .int .i64 c.n, .str c.s, va, vt, vl] 0 false := get_new_self _
    have cn : (h.new (.ofL [.int .i64 c.k, .int .i64 c.x, .int .i64 c.n, .str c.s, va, vt, vl] 0 false)).next = h.next + 1 := next_new _ _
    have box : ∀ (g : Heap) (l : List Int) (w : V), Grown hb (h.new (.ofL [.int .i64 c.k, .int .i64 c.x, .int .i64 c.n, .str c.s, va, vt, vl] 0 false)) vo g l w → g.get (pa h.next) = .ofL [.int .i64 c.k, .int .i64 c.x, .int .i64 c.n, .str c.s, va, vt, vl] 0 false ∧ h.next < g.next ∧ ¬ w.blk (pa h.next) := by
      intro g l w G
      have hnb : ¬ vo.blk (pa h.next) := fun q => by have := hvo _ q; rw [unPa_pa] at this; omega
      exact ⟨by rw [G.mod.get _ (old_lt (by rw [cn]; omega)) hnb]; exact cb, by have := G.mod.next; omega, G.off (old_lt (by rw [cn]; omega)) hnb⟩
    have fin : ∀ (g : Heap) (l : List Int) (w : V), Grown hb (h.new (.ofL [.int .i64 c.k, .int .i64 c.x, .int .i64 c.n, .str c.s, va, vt, vl] 0 false)) vo g l w → Grown hb h vo g l w := fun g l w G => G0.call G
    have G1 : Grown hb (h.new (.ofL [.int .i64 c.k, .int .i64 c.x, .int .i64 c.n, .str c.s, va, vt, vl] 0 false)) vo (h.new (.ofL [.int .i64 c.k, .int .i64 c.x, .int .i64 c.n, .str c.s, va, vt, vl] 0 false)) acc vo := Grown.start G0.ext G0.own
    generalize hH0 : (h.new (.ofL [.int .i64 c.k, .int .i64 c.x, .int .i64 c.n, .str c.s, va, vt, vl] 0 false)) = H0 at *
    have loop : ∀ (g : Heap) (l : List Int) (w : V) (r : RF) (ks : List KS) (Q : Ex → RF → Heap → Prop), Grown hb H0 vo g l w → lateB c.k = false → l ++ orders (lateB c.k) c.x c.l 0 = acc ++ order c → r 1 = w → r 2 = .ptr (pa h.next) 0 → r 6 = .int .i64 0 →
        (∀ g' w' r', Grown hb H0 vo g' (acc ++ order c) w' → r' 1 = w' → wpK Tryz.prog ks (.exit 3) r' g' Q) → loopK Tryz.prog c48l2 ks r g Q := by
      intro g l w r ks Q G hlate hl0 q1 q2 q6 hK
      refine loopK_intro (fun r h' => r 2 = .ptr (pa h.next) 0 ∧ ∃ (i : Nat) (done : List Int) (w : V), r 6 = .int .i64 i ∧ i ≤ c.l.length ∧ r 1 = w ∧ Grown hb H0 vo h' done w ∧ done ++ orders (lateB c.k) c.x (c.l.drop i) i = acc ++ order c) (fun r h' => c.l.length - (r 6).toN) ?_ ?_
      · exact ⟨q2, 0, l, w, by rw [q6]; rfl, by omega, q1, G, by simpa using hl0⟩
      · rintro r h' ⟨r2, i, done, w, r6, hi, r1, Gi, hdone⟩
        unfold c48l2
        obtain ⟨bx, nx, _⟩ := box _ _ _ Gi
        have hL := (Hl.ext Gi.ext).len
        by_cases hlt : i < c.l.length
        · have g0 : ((i : Int) < (c.l.length : Int)) = True := eq_true (by omega)
          obtain ⟨b, o, u, ia, hu, lds⟩ := Hl.atx (k := .i64) hlt
          have ld := (lds h' Gi.ext).1
          have wi := w_inc hlt (by omega)
          rw [List.drop_eq_getElem_cons hlt, orders] at hdone
          have hc1 : (if (lateB c.k && i == 1) = true then [c.x] else []) = ([] : List Int) := by rw [hlate]; rfl
          rw [hc1, List.nil_append] at hdone
          have hlen := congrArg List.length hdone
          simp only [List.length_append] at hlen
          simp +contextual only [r1, r2, r6, bx, hL, g0, ia, ld, ↓wA, wC, Ex.ends, evR, oneOf, top, ↓reduceIte, Nat.reduceEqDiff, Nat.reduceLeDiff, Nat.reduceAdd, Nat.reduceSub, Nat.reduceMul, reduceCtorEq, Int.reduceEq, Int.reduceLT, Int.reduceLE, Int.reduceNeg]
          refine callK_intro (kid i _ u h' done w (List.getElem?_eq_getElem hlt) hu Gi.ext Gi.own (by omega)) ?_
          rintro x g2 G2
          simp +contextual only [r2, r6, wi, ↓wA, wC, Ex.ends, evR, oneOf, top, ↓reduceIte, Nat.reduceEqDiff, Nat.reduceLeDiff, Nat.reduceAdd, Nat.reduceSub, Nat.reduceMul, reduceCtorEq, Int.reduceEq, Int.reduceLT, Int.reduceLE, Int.reduceNeg]
          exact ⟨⟨i + 1, done ++ order c.l[i], x, rfl, hlt, rfl, Gi.call G2, by rw [List.append_assoc]; exact hdone⟩, by omega⟩
        · have g0 : ((i : Int) < (c.l.length : Int)) = False := eq_false (by omega)
          rw [List.drop_eq_nil_of_le (by omega), orders, List.append_nil] at hdone
          rw [hdone] at Gi
          simp +contextual only [r1, r2, r6, bx, hL, g0, ↓wA, wC, Ex.ends, evR, oneOf, top, ↓reduceIte, Nat.reduceEqDiff, Nat.reduceLeDiff, Nat.reduceAdd, Nat.reduceSub, Nat.reduceMul, reduceCtorEq, Int.reduceEq, Int.reduceLT, Int.reduceLE, Int.reduceNeg]
          exact hK _ w _ Gi (by simp only [r1, ↓wA, wC, ↓reduceIte, Nat.reduceEqDiff, reduceCtorEq])
    by_cases h2 : c.k = 2
    · have e2 := eq_true h2
      have hlate : lateB c.k = true := by simp [lateB, h2]
      have hl2 := k3 hlate
      obtain ⟨b, o, u, ia, hu, lds⟩ := Hl.atx (k := .i64) (i := 0) (by omega)
      obtain ⟨b', o', u', ia', hu', lds'⟩ := Hl.atx (k := .i64) (i := 1) (by omega)
      have ia0 : iaV 7 vl (.int .i64 0) = some (.ptr b o) := by simpa using ia
      have ia1 : iaV 7 vl (.int .i64 1) = some (.ptr b' (o' + 7)) := by simpa using ia'
      have ld0 : ∀ g, Ext hb g → ldnB 7 (g.get b) o = some (.agg u) := fun g e => by simpa using (lds g e).1
      have ld1 : ∀ g, Ext hb g → ldnB 7 (g.get b') (o' + 7) = some (.agg u') := fun g e => by simpa using (lds' g e).1
      have hord2 : order c = order c.l[0] ++ [c.x] ++ order c.l[1] := by
        rw [hord, show ownNames c.k c.x c.l = [] from by rw [ownNames, if_neg (by omega), if_neg (by omega)], hlate]
        rw [orders_two hl2]
        rfl
      have hlen := congrArg List.length hord2
      simp only [List.length_append, List.length_cons, List.length_nil] at hlen
      simp +contextual only [hH0, e2, cb, ia0, ld0 H0 G1.ext, ↓wA, wC, Ex.ends, evR, oneOf, top, ↓reduceIte, Nat.reduceEqDiff, Nat.reduceLeDiff, Nat.reduceAdd, Nat.reduceSub, Nat.reduceMul, reduceCtorEq, Int.reduceEq, Int.reduceLT, Int.reduceLE, Int.reduceNeg]
      refine callK_intro (kid 0 _ u H0 acc vo (List.getElem?_eq_getElem (by omega)) hu G1.ext G1.own (by omega)) ?_
      rintro x g2 G2
      obtain ⟨b2, n2, w2⟩ := box _ _ _ G2
      have e2x : Ext g2 (g2.new (.ofL [.int .i64 c.x] 0 false)) := (Ext.refl g2).new _
      obtain ⟨v3, h3, q1, q2, q3, q4, q5⟩ := app_one (cs := [.int .i64 c.x]) (by omega) G2.own G2.ext.next (by simp only [List.length_append]; unfold top; omega) rfl rfl
      have G3 := G2.step (m := [c.x]) q2 q3 (fun b hb => (q5 b hb).imp id (fun q => by omega))
      obtain ⟨b3, n3, w3⟩ := box _ _ _ G3
      have b2x : (g2.new (.ofL [.int .i64 c.x] 0 false)).get (pa h.next) = .ofL [.int .i64 c.k, .int .i64 c.x, .int .i64 c.n, .str c.s, va, vt, vl] 0 false := by rw [e2x.get _ (old_lt n2)]; exact b2
      simp +contextual only [b2, b2x, b3, q1, ia1, ld1 g2 G2.ext, ld1 h3 G3.ext, ld1 _ (G2.ext.trans e2x), ↓wA, wC, Ex.ends, evR, oneOf, top, ↓reduceIte, Nat.reduceEqDiff, Nat.reduceLeDiff, Nat.reduceAdd, Nat.reduceSub, Nat.reduceMul, reduceCtorEq, Int.reduceEq, Int.reduceLT, Int.reduceLE, Int.reduceNeg]
      refine callK_intro (kid 1 _ u' h3 (acc ++ order c.l[0] ++ [c.x]) v3 (List.getElem?_eq_getElem (by omega)) hu' G3.ext G3.own (by simp only [List.length_append, List.length_cons, List.length_nil]; omega)) ?_
      rintro y g4 G4
      have G4' := G3.call G4
      obtain ⟨b4, n4, w4⟩ := box _ _ _ G4'
      have hfin : Grown hb h vo g4 (acc ++ order c) y := by
        have := fin _ _ _ G4'
        rw [hord2]
        simpa only [List.append_assoc] using this
      simp +contextual only [b2, b2x, b3, b4, ia1, ld1 g2 G2.ext, ld1 h3 G3.ext, ld1 _ (G2.ext.trans e2x), ↓wA, wC, Ex.ends, evR, oneOf, top, ↓reduceIte, Nat.reduceEqDiff, Nat.reduceLeDiff, Nat.reduceAdd, Nat.reduceSub, Nat.reduceMul, reduceCtorEq, Int.reduceEq, Int.reduceLT, Int.reduceLE, Int.reduceNeg]
      refine ⟨?_, hfin⟩
      have := ld1 _ (G2.ext.trans e2x)
      rw [get_new] at this
      exact this
    have e2 := eq_false h2
    by_cases h11 : c.k = 11
    · have e11 := eq_true h11
      have hlate : lateB c.k = true := by simp [lateB, h11]
      have hl2 := k3 hlate
      obtain ⟨b, o, u, ia, hu, lds⟩ := Hl.atx (k := .i64) (i := 0) (by omega)
      obtain ⟨b', o', u', ia', hu', lds'⟩ := Hl.atx (k := .i64) (i := 1) (by omega)
      have ia0 : iaV 7 vl (.int .i64 0) = some (.ptr b o) := by simpa using ia
      have ia1 : iaV 7 vl (.int .i64 1) = some (.ptr b' (o' + 7)) := by simpa using ia'
      have ld0 : ∀ g, Ext hb g → ldnB 7 (g.get b) o = some (.agg u) := fun g e => by simpa using (lds g e).1
      have ld1 : ∀ g, Ext hb g → ldnB 7 (g.get b') (o' + 7) = some (.agg u') := fun g e => by simpa using (lds' g e).1
      have hord2 : order c = order c.l[0] ++ [c.x] ++ order c.l[1] := by
        rw [hord, show ownNames c.k c.x c.l = [] from by rw [ownNames, if_neg (by omega), if_neg (by omega)], hlate]
        rw [orders_two hl2]
        rfl
      have hlen := congrArg List.length hord2
      simp only [List.length_append, List.length_cons, List.length_nil] at hlen
      simp +contextual only [hH0, e2, e11, cb, ia0, ld0 H0 G1.ext, ↓wA, wC, Ex.ends, evR, oneOf, top, ↓reduceIte, Nat.reduceEqDiff, Nat.reduceLeDiff, Nat.reduceAdd, Nat.reduceSub, Nat.reduceMul, reduceCtorEq, Int.reduceEq, Int.reduceLT, Int.reduceLE, Int.reduceNeg]
      refine callK_intro (kid 0 _ u H0 acc vo (List.getElem?_eq_getElem (by omega)) hu G1.ext G1.own (by omega)) ?_
      rintro x g2 G2
      obtain ⟨b2, n2, w2⟩ := box _ _ _ G2
      have e2x : Ext g2 (g2.new (.ofL [.int .i64 c.x] 0 false)) := (Ext.refl g2).new _
      obtain ⟨v3, h3, q1, q2, q3, q4, q5⟩ := app_one (cs := [.int .i64 c.x]) (by omega) G2.own G2.ext.next (by simp only [List.length_append]; unfold top; omega) rfl rfl
      have G3 := G2.step (m := [c.x]) q2 q3 (fun b hb => (q5 b hb).imp id (fun q => by omega))
      obtain ⟨b3, n3, w3⟩ := box _ _ _ G3
      have b2x : (g2.new (.ofL [.int .i64 c.x] 0 false)).get (pa h.next) = .ofL [.int .i64 c.k, .int .i64 c.x, .int .i64 c.n, .str c.s, va, vt, vl] 0 false := by rw [e2x.get _ (old_lt n2)]; exact b2
      simp +contextual only [b2, b2x, b3, q1, ia1, ld1 g2 G2.ext, ld1 h3 G3.ext, ld1 _ (G2.ext.trans e2x), ↓wA, wC, Ex.ends, evR, oneOf, top, ↓reduceIte, Nat.reduceEqDiff, Nat.reduceLeDiff, Nat.reduceAdd, Nat.reduceSub, Nat.reduceMul, reduceCtorEq, Int.reduceEq, Int.reduceLT, Int.reduceLE, Int.reduceNeg]
      refine callK_intro (kid 1 _ u' h3 (acc ++ order c.l[0] ++ [c.x]) v3 (List.getElem?_eq_getElem (by omega)) hu' G3.ext G3.own (by simp only [List.length_append, List.length_cons, List.length_nil]; omega)) ?_
      rintro y g4 G4
      have G4' := G3.call G4
      obtain ⟨b4, n4, w4⟩ := box _ _ _ G4'
      have hfin : Grown hb h vo g4 (acc ++ order c) y := by
        have := fin _ _ _ G4'
        rw [hord2]
        simpa only [List.append_assoc] using this
      simp +contextual only [b2, b2x, b3, b4, ia1, ld1 g2 G2.ext, ld1 h3 G3.ext, ld1 _ (G2.ext.trans e2x), ↓wA, wC, Ex.ends, evR, oneOf, top, ↓reduceIte, Nat.reduceEqDiff, Nat.reduceLeDiff, Nat.reduceAdd, Nat.reduceSub, Nat.reduceMul, reduceCtorEq, Int.reduceEq, Int.reduceLT, Int.reduceLE, Int.reduceNeg]
      refine ⟨?_, hfin⟩
      have := ld1 _ (G2.ext.trans e2x)
      rw [get_new] at this
      exact this
    have e11 := eq_false h11
    have hlate : lateB c.k = false := by simp [lateB, h2, h11]
    by_cases h7 : c.k = 7
    · have e7 := eq_true h7
      have hord7 : order c = [c.x] ++ orders (lateB c.k) c.x c.l 0 := by rw [hord, ownNames, if_pos h7]
      have hlen := congrArg List.length hord7
      simp only [List.length_append, List.length_cons, List.length_nil] at hlen
      obtain ⟨v3, h3, q1, q2, q3, q4, q5⟩ := app_one (cs := [.int .i64 c.x]) (by omega) G1.own G1.ext.next (by unfold top; omega) rfl rfl
      have G3 := G1.step (m := [c.x]) q2 q3 (fun b hb => (q5 b hb).imp id (fun q => by omega))
      simp +contextual only [hH0, e2, e11, e7, cb, q1, ↓wA, wC, Ex.ends, evR, oneOf, top, ↓reduceIte, Nat.reduceEqDiff, Nat.reduceLeDiff, Nat.reduceAdd, Nat.reduceSub, Nat.reduceMul, reduceCtorEq, Int.reduceEq, Int.reduceLT, Int.reduceLE, Int.reduceNeg]
      refine loop h3 (acc ++ [c.x]) v3 _ _ _ G3 hlate (by rw [hord7]; simp only [List.append_assoc]) (by simp only [↓wA, wC, ↓reduceIte, Nat.reduceEqDiff, reduceCtorEq]) (by simp only [↓wA, wC, ↓reduceIte, Nat.reduceEqDiff, reduceCtorEq]) (by simp only [↓wA, wC, ↓reduceIte, Nat.reduceEqDiff, reduceCtorEq]) ?_
      intro g' w' r' G' p1
      simp +contextual only [p1, ↓wA, wC, Ex.ends, evR, oneOf, top, ↓reduceIte, Nat.reduceEqDiff, Nat.reduceLeDiff, Nat.reduceAdd, Nat.reduceSub, Nat.reduceMul, reduceCtorEq, Int.reduceEq, Int.reduceLT, Int.reduceLE, Int.reduceNeg]
      exact fin _ _ _ G'
    have e7 := eq_false h7
    by_cases h8 : c.k = 8
    · have e8 := eq_true h8
      have hord8 : order c = c.l.dropLast.map Co.n ++ orders (lateB c.k) c.x c.l 0 := by rw [hord, ownNames, if_neg h7, if_pos h8]
      have hlen := congrArg List.length hord8
      simp only [List.length_append] at hlen
      have hl1 := k1 h8
      have w0 : IntKind.i64.wrap ((c.l.length : Int) - 1) = ((c.l.length - 1 : Nat) : Int) := by rw [wrap_i64 (by omega) (by omega)]; omega
      simp +contextual only [hH0, e2, e11, e7, e8, cb, ↓wA, wC, Ex.ends, evR, oneOf, top, ↓reduceIte, Nat.reduceEqDiff, Nat.reduceLeDiff, Nat.reduceAdd, Nat.reduceSub, Nat.reduceMul, reduceCtorEq, Int.reduceEq, Int.reduceLT, Int.reduceLE, Int.reduceNeg]
      refine loopK_intro (fun r h' => r 2 = .ptr (pa h.next) 0 ∧ ∃ (i : Nat) (w : V), r 5 = .int .i64 i ∧ i ≤ c.l.length - 1 ∧ r 1 = w ∧ Grown hb H0 vo h' (acc ++ (c.l.take i).map Co.n) w) (fun r h' => c.l.length - (r 5).toN) ?_ ?_
      · exact ⟨by simp only [↓wA, wC, ↓reduceIte, Nat.reduceEqDiff, reduceCtorEq], 0, vo, by simp only [↓wA, wC, ↓reduceIte, Nat.reduceEqDiff, reduceCtorEq] <;> rfl, by omega, by simp only [↓wA, wC, ↓reduceIte, Nat.reduceEqDiff, reduceCtorEq], by simpa using G1⟩
      · rintro r h' ⟨r2, i, w, r5, hi, r1, Gi⟩
        unfold c48l1
        obtain ⟨bx, nx, _⟩ := box _ _ _ Gi
        have hL := (Hl.ext Gi.ext).len
        by_cases hlt : i < c.l.length - 1
        · have g0 : ((i : Int) < ((c.l.length - 1 : Nat) : Int)) = True := eq_true (by omega)
          have hlt2 : i < c.l.length := by omega
          obtain ⟨b, o, u, ia, hu, lds⟩ := Hl.atx (k := .i64) hlt2
          have ldc := (lds h' Gi.ext).2
          have wi := w_inc hlt2 (by omega)
          have htk : (c.l.take (i + 1)).map Co.n = (c.l.take i).map Co.n ++ [c.l[i].n] := by rw [List.take_add_one, List.getElem?_eq_getElem hlt2, List.map_append]; rfl
          have hdl : (c.l.dropLast.map Co.n).length = c.l.length - 1 := by rw [List.length_map, List.length_dropLast]
          have htl : ((c.l.take i).map Co.n).length = i := by rw [List.length_map, List.length_take]; omega
          generalize hfd : c.l[i] = f at *
          obtain ⟨fa, ft, fl, rfl, Fa, Ft, Fl⟩ := hu.open
          have l2 := ldc 2 (by omega)
          rw [show ([V.int .i64 f.k, .int .i64 f.x, .int .i64 f.n, .str f.s, fa, ft, fl])[2]? = some (.int .i64 f.n) from rfl] at l2
          obtain ⟨v3, h3, q1, q2, q3, q4, q5⟩ := app_one (cs := [.int .i64 f.n]) (by omega) Gi.own Gi.ext.next (by rw [List.length_append, htl]; unfold top; omega) rfl rfl
          have G3 := Gi.step (m := [f.n]) q2 q3 (fun b hb => (q5 b hb).imp id (fun q => by omega))
          simp +contextual only [r1, r2, r5, bx, hL, w0, g0, ia, l2, q1, wi, ↓wA, wC, Ex.ends, evR, oneOf, top, ↓reduceIte, Nat.reduceEqDiff, Nat.reduceLeDiff, Nat.reduceAdd, Nat.reduceSub, Nat.reduceMul, reduceCtorEq, Int.reduceEq, Int.reduceLT, Int.reduceLE, Int.reduceNeg]
          exact ⟨⟨i + 1, v3, rfl, by omega, rfl, by rw [htk, ← List.append_assoc]; exact G3⟩, by omega⟩
        · have g0 : ((i : Int) < ((c.l.length - 1 : Nat) : Int)) = False := eq_false (by omega)
          obtain rfl : i = c.l.length - 1 := by omega
          simp +contextual only [r1, r2, r5, bx, hL, w0, g0, ↓wA, wC, Ex.ends, evR, oneOf, top, ↓reduceIte, Nat.reduceEqDiff, Nat.reduceLeDiff, Nat.reduceAdd, Nat.reduceSub, Nat.reduceMul, reduceCtorEq, Int.reduceEq, Int.reduceLT, Int.reduceLE, Int.reduceNeg]
          refine loop h' _ w _ _ _ Gi hlate (by rw [hord8, List.dropLast_eq_take]; simp only [List.append_assoc]) (by simp only [r1, ↓wA, wC, ↓reduceIte, Nat.reduceEqDiff, reduceCtorEq]) (by simp only [r2, ↓wA, wC, ↓reduceIte, Nat.reduceEqDiff, reduceCtorEq]) (by simp only [↓wA, wC, ↓reduceIte, Nat.reduceEqDiff, reduceCtorEq]) ?_
          intro g' w' r' G' p1
          simp +contextual only [p1, ↓wA, wC, Ex.ends, evR, oneOf, top, ↓reduceIte, Nat.reduceEqDiff, Nat.reduceLeDiff, Nat.reduceAdd, Nat.reduceSub, Nat.reduceMul, reduceCtorEq, Int.reduceEq, Int.reduceLT, Int.reduceLE, Int.reduceNeg]
          exact fin _ _ _ G'
    have e8 := eq_false h8
    have hord0 : order c = orders (lateB c.k) c.x c.l 0 := by rw [hord, ownNames, if_neg h7, if_neg h8, List.nil_append]
    simp +contextual only [hH0, e2, e11, e7, e8, cb, ↓wA, wC, Ex.ends, evR, oneOf, top, ↓reduceIte, Nat.reduceEqDiff, Nat.reduceLeDiff, Nat.reduceAdd, Nat.reduceSub, Nat.reduceMul, reduceCtorEq, Int.reduceEq, Int.reduceLT, Int.reduceLE, Int.reduceNeg]
    refine loop H0 acc vo _ _ _ G1 hlate (by rw [hord0]) (by simp only [↓wA, wC, ↓reduceIte, Nat.reduceEqDiff, reduceCtorEq]) (by simp only [↓wA, wC, ↓reduceIte, Nat.reduceEqDiff, reduceCtorEq]) (by simp only [↓wA, wC, ↓reduceIte, Nat.reduceEqDiff, reduceCtorEq]) ?_
    intro g' w' r' G' p1
    simp +contextual only [p1, ↓wA, wC, Ex.ends, evR, oneOf, top, ↓reduceIte, Nat.reduceEqDiff, Nat.reduceLeDiff, Nat.reduceAdd, Nat.reduceSub, Nat.reduceMul, reduceCtorEq, Int.reduceEq, Int.reduceLT, Int.reduceLE, Int.reduceNeg]
    exact fin _ _ _ G'
end Go.Proofs.YtjbiefneffiogaaGreat

namespace Go.Proofs.YtjbiefneffiogaaGreat
open Go Am
def amongB (l : List Int) (n : Int) : Bool := l.any (fun m => decide (m = n))
theorem among_ctr (l : List Int) (n : Int) (v : V) (h : Heap) (H : SlV h 1 v l.length (intsV l)) (hl : l.length ≤ 4611686018427387904) :
    Ctr Tryz.prog 74 [v, .int .i64 n] h fun x h' => x = .bool (amongB l n) ∧ h' = h := by
  refine c74_ctr rfl (wpK_of ?_)
  unfold c74
  simp +contextual only [↓wA, wC, Ex.ends, evR, oneOf, top, ↓reduceIte, Nat.reduceEqDiff, Nat.reduceLeDiff, Nat.reduceAdd, Nat.reduceSub, Nat.reduceMul, reduceCtorEq, Int.reduceEq, Int.reduceLT, Int.reduceLE, Int.reduceNeg]
  refine loopK_intro (fun r h' => h' = h ∧ r 0 = v ∧ r 1 = .int .i64 n ∧ ∃ i : Nat, r 5 = .int .i64 i ∧ i ≤ l.length ∧ amongB l n = amongB (l.drop i) n) (fun r h' => l.length - (r 5).toN) ?_ ?_
  · exact ⟨rfl, by simp only [↓wA, wC, ↓reduceIte, Nat.reduceEqDiff, reduceCtorEq], by simp only [↓wA, wC, ↓reduceIte, Nat.reduceEqDiff, reduceCtorEq], 0, by simp only [↓wA, wC, ↓reduceIte, Nat.reduceEqDiff, reduceCtorEq] <;> rfl, by omega, rfl⟩
  · rintro r h' ⟨rfl, r0, r1, i, r5, hi, hok⟩
    unfold c74l1
    have hL := H.len
    by_cases hlt : i < l.length
    · have g0 : ((i : Int) < (l.length : Int)) = True := eq_true (by omega)
      obtain ⟨b, o, ia, ld⟩ := ints_at H (k := .i64) hlt
      rw [List.drop_eq_getElem_cons hlt] at hok
      have w := w_inc hlt hl
      have hs : amongB (l[i] :: l.drop (i + 1)) n = (decide (l[i] = n) || amongB (l.drop (i + 1)) n) := rfl
      rw [hs] at hok
      by_cases hc : l[i] = n
      · have e := eq_true hc
        simp +contextual only [r0, r1, r5, hL, g0, ia, ld, e, ↓wA, wC, Ex.ends, evR, oneOf, top, ↓reduceIte, Nat.reduceEqDiff, Nat.reduceLeDiff, Nat.reduceAdd, Nat.reduceSub, Nat.reduceMul, reduceCtorEq, Int.reduceEq, Int.reduceLT, Int.reduceLE, Int.reduceNeg]
        rw [hok]; simp [hc]
      · have e := eq_false hc
        simp +contextual only [r0, r1, r5, hL, g0, ia, ld, e, w, ↓wA, wC, Ex.ends, evR, oneOf, top, ↓reduceIte, Nat.reduceEqDiff, Nat.reduceLeDiff, Nat.reduceAdd, Nat.reduceSub, Nat.reduceMul, reduceCtorEq, Int.reduceEq, Int.reduceLT, Int.reduceLE, Int.reduceNeg]
        exact ⟨⟨i + 1, rfl, hlt, by rw [hok]; simp [hc]⟩, by omega⟩
    · have g0 : ((i : Int) < (l.length : Int)) = False := eq_false (by omega)
      rw [List.drop_eq_nil_of_le (by omega)] at hok
      simp +contextual only [r0, r1, r5, hL, g0, ↓wA, wC, Ex.ends, evR, oneOf, top, ↓reduceIte, Nat.reduceEqDiff, Nat.reduceLeDiff, Nat.reduceAdd, Nat.reduceSub, Nat.reduceMul, reduceCtorEq, Int.reduceEq, Int.reduceLT, Int.reduceLE, Int.reduceNeg]
      rw [hok]; rfl
theorem wrap_add {a b : Nat} (h : a + b ≤ 4611686018427387904) : IntKind.i64.wrap ((a : Int) + (b : Int)) = ((a + b : Nat) : Int) := by
  rw [wrap_i64 (by omega) (by omega)]
  push_cast; rfl
end Go.Proofs.YtjbiefneffiogaaGreat

namespace Go.Proofs.YtjbiefneffiogaaGreat
open Go Am
theorem ins_at {x : Int} : ∀ {o : List Int} {k : Nat} (hk : k ≤ o.length), (∀ (j : Nat) (h : j < k), o[j]'(by omega) < x) → (∀ h : k < o.length, ¬ o[k] < x) →
    ins x o = if (∃ h : k < o.length, o[k] = x) then o else o.take k ++ [x] ++ o.drop k
  | [], k, hk, _, _ => by
    obtain rfl : k = 0 := by simpa using hk
    simp [ins]
  | y :: o, 0, hk, _, h2 => by
    have := h2 (by simp)
    simp only [List.getElem_cons_zero] at this
    simp only [ins, if_neg this, List.getElem_cons_zero, List.length_cons, Nat.zero_lt_succ, exists_true_left, List.take_zero, List.nil_append, List.drop_zero, List.cons_append]
  | y :: o, k + 1, hk, h1, h2 => by
    have h0 := h1 0 (by omega)
    simp only [List.getElem_cons_zero] at h0
    have ih := ins_at (x := x) (o := o) (k := k) (by simpa using hk) (fun j hj => by simpa using h1 (j + 1) (by omega)) (fun h => by have := h2 (Nat.succ_lt_succ h); simp only [List.getElem_cons_succ] at this; exact this)
    simp only [ins, if_pos h0, ih, List.getElem_cons_succ, List.length_cons, Nat.add_lt_add_iff_right, List.take_succ_cons, List.drop_succ_cons, List.cons_append]
    split <;> rfl
theorem ins_len (x : Int) : ∀ o : List Int, (ins x o).length ≤ o.length + 1
  | [] => by simp [ins]
  | y :: o => by
    have := ins_len x o
    simp only [ins]
    split
    · simp only [List.length_cons]; omega
    · split <;> simp
theorem rising_len (l : List Int) : (rising l).length ≤ l.length := by
  have : ∀ (l o : List Int), (l.foldl (fun o x => ins x o) o).length ≤ o.length + l.length := by
    intro l
    induction l with
    | nil => intro o; simp
    | cons x l ih => intro o; rw [List.foldl_cons]; have := ih (ins x o); have := ins_len x o; simp only [List.length_cons]; omega
  simpa [rising] using this l []
theorem SlO.cut3 {B : Nat} {h : Heap} {size : Nat} {v : V} {n : Nat} {vs : List V} (H : SlO B h size v n vs) {k : IntKind} {m : Nat} (hm : m ≤ n) (ht : m ≤ top) :
    ∃ v', sliceV size v none (some (.int k m)) (some (.int k m)) = some v' ∧ SlO B h size v' m (vs.take (m * size)) ∧ ∀ b, v'.blk b → v.blk b := by
  obtain ⟨q1, q2⟩ := H
  have hmm := Nat.mul_le_mul_right size hm
  have hll : (vs.take (m * size)).length = m * size := by rw [List.length_take]; omega
  cases v <;> simp only at q2 <;> try (exact q2.elim)
  case nilslice =>
    subst q2
    obtain rfl : m = 0 := by omega
    refine ⟨.nilslice, ?_, ⟨hll, rfl⟩, fun b hb => hb⟩
    have e := fun d => bound_some (k := k) (m := 0) (d := d) (y := 0) (Nat.le_refl 0)
    simp only [sliceV, sliceNil, e, bound_none]
  case slice b off len cap =>
    obtain ⟨rfl, q3, q4, q5, q6, us, esz, st, q7, q8, q9⟩ := q2
    have e : sliceV size (.slice b off len cap) none (some (.int k m)) (some (.int k m)) = some (.slice b off m m) := by
      simp only [sliceV, sliceKnown, bound_some (k := k) (m := m) (d := cap) (y := cap) (by omega), bound_some (k := k) (m := m) (d := len) (y := m) (Nat.le_refl _), bound_none]
      cases Nat.beq m 0 <;> simp
    rw [e]
    have hmc := Nat.mul_le_mul_right size (Nat.le_trans hm q5)
    refine ⟨_, rfl, ⟨hll, rfl, q3, q4, Nat.le_refl _, ht, us, esz, st, q7, by omega, ?_⟩, fun b' hb => hb⟩
    rw [hll, ← q9, List.take_take]
    congr 1
    omega
  case gslice b off len idx =>
    obtain ⟨rfl, q3, q4, rfl, rfl, us, st, q7, q8, q9⟩ := q2
    have e : sliceV size (.gslice b 0 len 0) none (some (.int k m)) (some (.int k m)) = some (.slice b 0 m m) := by
      simp only [sliceV, sliceGrown, bound_some (k := k) (m := m) (d := len) (y := len) (by omega), bound_some (k := k) (m := m) (d := len) (y := m) (Nat.le_refl _), bound_none]
      cases Nat.beq m 0 <;> simp
    rw [e]
    refine ⟨_, rfl, ⟨hll, rfl, q3, q4, Nat.le_refl _, ht, us, size, st, q7, by omega, ?_⟩, fun b' hb => hb⟩
    rw [hll, List.drop_zero, ← q9, List.take_take]
    congr 1
    omega
theorem SlO.empty {B : Nat} {h : Heap} (size : Nat) (hB : B ≤ h.next) : SlO B (h.new (.ofL [] 0 false)) size (.slice (pa h.next) 0 0 0) 0 [] :=
  ⟨by simp, rfl, by rw [unPa_pa]; exact hB, old_lt (by rw [next_new]; omega), Nat.le_refl _, Nat.zero_le _, [], 0, false, get_new_self _, by simp, by simp⟩
theorem SlV.capOf {h : Heap} {B size : Nat} {v : V} {n : Nat} {vs : List V} (H : SlO B h size v n vs) : ∀ b off l c, v = .slice b off l c → l ≤ c := by
  intro b off l c e
  subst e
  obtain ⟨_, rfl, _, _, q, _⟩ := H
  exact q
theorem intsV_drop (l : List Int) (k : Nat) : (intsV l).drop k = intsV (l.drop k) := by
  induction l generalizing k with
  | nil => simp [intsV]
  | cons x l ih => cases k <;> simp [intsV, ih]
theorem intsV_take (l : List Int) (k : Nat) : (intsV l).take k = intsV (l.take k) := by
  induction l generalizing k with
  | nil => simp [intsV]
  | cons x l ih => cases k <;> simp [intsV, ih]
end Go.Proofs.YtjbiefneffiogaaGreat

namespace Go.Proofs.YtjbiefneffiogaaGreat
open Go Am
theorem insert_slices {B : Nat} {h : Heap} {w : V} {o : List Int} (O : SlO B h 1 w o.length (intsV o)) (hB : B ≤ h.next) {k : Nat} (hk : k ≤ o.length) (hl : o.length + 1 ≤ top) (x : Int) :
    ∃ v1 v2 h2 v3 v4 h4 v5 h5, sliceV 1 w (some (.int .i64 k)) none none = some v1 ∧ appV 1 (.slice (pa h.next) 0 0 0) v1 (h.new (.ofL [] 0 false)) = .val v2 h2 ∧ Ext h h2 ∧
      sliceV 1 w none (some (.int .i64 k)) (some (.int .i64 k)) = some v3 ∧ appV 1 v3 (.slice (pa h2.next) 0 1 1) (h2.new (.ofL [.int .i64 x] 0 false)) = .val v4 h4 ∧ appV 1 v4 v2 h4 = .val v5 h5 ∧
      Mod w.blk h h5 ∧ SlO B h5 1 v5 (o.take k ++ [x] ++ o.drop k).length (intsV (o.take k ++ [x] ++ o.drop k)) ∧ ∀ b, v5.blk b → w.blk b ∨ h.next ≤ unPa b := by
  obtain ⟨v1, a1, a2, a3⟩ := O.v.cut (k := .i64) (k' := .i64) (lo := k) (hi := o.length) hk (Nat.le_refl _) (some (.int .i64 k)) none (.inl rfl) (.inr ⟨rfl, rfl⟩) (SlV.capOf O)
  have hd : ((intsV o).drop (k * 1)).take ((o.length - k) * 1) = intsV (o.drop k) := by
    rw [Nat.mul_one, Nat.mul_one, intsV_drop, intsV_take, List.take_of_length_le (by rw [List.length_drop]; omega)]
  rw [hd] at a2
  have e0 : Ext h (h.new (.ofL [] 0 false)) := (Ext.refl h).new _
  obtain ⟨v2, h2, b1, b2, b3, b4⟩ := app_own (B := h.next) (Nat.le_refl 1) (SlO.empty (h := h) 1 (Nat.le_refl _)) (a2.ext e0) (by rw [next_new]; omega) (by omega) (intsV_ones _)
  have e2 : Ext h h2 := e0.mod_new b3 (fun b hb => by
    have : b = pa h.next := hb
    rw [this, unPa_pa]; exact Nat.le_refl _)
  rw [List.nil_append, Nat.zero_add] at b2
  obtain ⟨v3, c1, c2, c3⟩ := SlO.cut3 (O.ext e2) (k := .i64) (m := k) hk (by omega)
  rw [Nat.mul_one, intsV_take] at c2
  obtain ⟨v4, h4, d1, d2, d3, d4, d5⟩ := app_one (cs := [.int .i64 x]) (Nat.le_refl 1) c2 (Nat.le_trans hB e2.next) (by omega) rfl rfl
  have hv2 : SlO h.next h4 1 v2 (o.length - k) (intsV (o.drop k)) := b2.mod d3 (fun b q1 q2 => by
    have f1 := b2.base q1
    have f2 : unPa b < h.next := O.v.old (c3 b q2)
    omega)
  obtain ⟨v5, h5, f1, f2, f3, f4⟩ := app_own (Nat.le_refl 1) d2 hv2.v (by have := e2.next; omega) (by omega) (intsV_ones _)
  have m4 : Mod w.blk h h4 := Mod_next (e2.mod _) d3 (fun b _ q => c3 b q)
  refine ⟨v1, v2, h2, v3, v4, h4, v5, h5, a1, b1, e2, c1, d1, f1, Mod_next m4 f3 (fun b ho q => ?_), ?_, fun b hb => ?_⟩
  · rcases d5 b q with q | q
    · exact c3 b q
    · have := e2.next
      unfold Old at ho
      omega
  · have : (o.take k ++ [x] ++ o.drop k).length = k + 1 + (o.length - k) := by
      simp only [List.length_append, List.length_take, List.length_drop, List.length_cons, List.length_nil]
      omega
    rw [this, intsV_app, intsV_app]
    exact f2
  · have := e2.next
    rcases f4 b hb with q | q
    · rcases d5 b q with q | q
      · exact .inl (c3 b q)
      · exact .inr (by omega)
    · exact .inr (by omega)
theorem ints_atx {h : Heap} {l : List Int} {v : V} (H : SlV h 1 v l.length (intsV l)) {k : IntKind} {i : Nat} (hi : i < l.length) :
    ∃ b off, iaV 1 v (.int k i) = some (.ptr b (off + i * 1)) ∧ ∀ h', Ext h h' → ld1B (h'.get b) (off + i * 1) = some (.int .i64 l[i]) := by
  obtain ⟨b, off, e1, e2⟩ := H.ia (k := k) hi
  refine ⟨b, off, e1, fun h' hx => ?_⟩
  rw [Nat.mul_one, (e2.ext hx).ld1 (by rw [intsV_len]; exact hi)]
  simp [intsV]
set_option maxHeartbeats 1000000 in
theorem rising_ctr (l : List Int) (v : V) (h : Heap) (H : SlV h 1 v l.length (intsV l)) (hl : l.length ≤ 8000000) :
    Ctr Tryz.prog 53 [v] h fun x h' => SlO h.next h' 1 x (rising l).length (intsV (rising l)) ∧ Ext h h' := by
  refine c53_ctr rfl (wpK_of ?_)
  unfold c53
  simp +contextual only [↓wA, wC, Ex.ends, evR, oneOf, top, ↓reduceIte, Nat.reduceEqDiff, Nat.reduceLeDiff, Nat.reduceAdd, Nat.reduceSub, Nat.reduceMul, reduceCtorEq, Int.reduceEq, Int.reduceLT, Int.reduceLE, Int.reduceNeg]
  refine loopK_intro (fun r h' => Ext h h' ∧ r 0 = v ∧ ∃ (i : Nat) (w : V), r 4 = .int .i64 i ∧ i ≤ l.length ∧ r 3 = w ∧ SlO h.next h' 1 w (rising (l.take i)).length (intsV (rising (l.take i)))) (fun r h' => l.length - (r 4).toN) ?_ ?_
  · exact ⟨Ext.refl _, by simp only [↓wA, wC, ↓reduceIte, Nat.reduceEqDiff, reduceCtorEq], 0, .nilslice, by simp only [↓wA, wC, ↓reduceIte, Nat.reduceEqDiff, reduceCtorEq] <;> rfl, by omega, by simp only [↓wA, wC, ↓reduceIte, Nat.reduceEqDiff, reduceCtorEq], ⟨rfl, rfl⟩⟩
  · rintro r h' ⟨hx, r0, i, w, r4, hi, r3, O⟩
    unfold c53l2
    have hL := (H.ext hx).len
    by_cases hlt : i < l.length
    · have g0 : ((i : Int) < (l.length : Int)) = True := eq_true (by omega)
      obtain ⟨b, o, ia, lds⟩ := ints_atx (H.ext hx) (k := .i64) hlt
      have ld := lds h' (Ext.refl _)
      have hri : rising (l.take (i + 1)) = ins l[i] (rising (l.take i)) := by
        rw [rising, rising, List.take_succ_eq_append_getElem hlt, List.foldl_append]; rfl
      have hrl : (rising (l.take i)).length ≤ 8000000 := by have := rising_len (l.take i); rw [List.length_take] at this; omega
      generalize rising (l.take i) = q at *
      have hW := O.v.len
      have wi := w_inc hlt (by omega)
      simp +contextual only [r0, r4, hL, g0, ↓wA, wC, Ex.ends, evR, oneOf, top, ↓reduceIte, Nat.reduceEqDiff, Nat.reduceLeDiff, Nat.reduceAdd, Nat.reduceSub, Nat.reduceMul, reduceCtorEq, Int.reduceEq, Int.reduceLT, Int.reduceLE, Int.reduceNeg]
      refine loopK_intro (fun r' h2 => h2 = h' ∧ r' 0 = v ∧ r' 3 = w ∧ r' 4 = .int .i64 i ∧ ∃ k : Nat, r' 5 = .int .i64 k ∧ ∃ hk : k ≤ q.length, ∀ (j : Nat) (hj : j < k), q[j]'(by omega) < l[i]) (fun r h' => q.length - (r 5).toN) ?_ ?_
      · exact ⟨rfl, by simp only [r0, ↓wA, wC, ↓reduceIte, Nat.reduceEqDiff, reduceCtorEq], by simp only [r3, ↓wA, wC, ↓reduceIte, Nat.reduceEqDiff, reduceCtorEq], by simp only [r4, ↓wA, wC, ↓reduceIte, Nat.reduceEqDiff, reduceCtorEq], 0, by simp only [↓wA, wC, ↓reduceIte, Nat.reduceEqDiff, reduceCtorEq] <;> rfl, by omega, fun j hj => by omega⟩
      · rintro r' h2 ⟨rfl, s0, s3, s4, k, s5, hk, hbelow⟩
        unfold c53l1
        have fin := insert_slices O hx.next hk (by unfold top; omega) l[i]
        obtain ⟨v1, v2, g2, v3, v4, g4, v5, g5, a1, a2, a3, a4, a5, a6, a7, a8, a9⟩ := fin
        have ld2 := lds g2 a3
        have done : (∀ h : k < q.length, ¬ q[k] < l[i]) → (¬ ∃ h : k < q.length, q[k] = l[i]) → ins l[i] q = q.take k ++ [l[i]] ++ q.drop k := fun p1 p2 => by rw [ins_at hk hbelow p1, if_neg p2]
        have ext5 : Ext h g5 := hx.mod_new a7 (fun b hb => O.base hb)
        by_cases ha : k < q.length
        · have ga : ((k : Int) < (q.length : Int)) = True := eq_true (by omega)
          obtain ⟨b', o', ia', ld'⟩ := ints_at O.v (k := .i64) ha
          have wk := w_inc ha (by omega)
          by_cases hc : q[k] < l[i]
          · have e := eq_true hc
            simp +contextual only [s0, s3, s4, s5, hW, ga, ia', ld', ia, ld, e, wk, ↓wA, wC, Ex.ends, evR, oneOf, top, ↓reduceIte, Nat.reduceEqDiff, Nat.reduceLeDiff, Nat.reduceAdd, Nat.reduceSub, Nat.reduceMul, reduceCtorEq, Int.reduceEq, Int.reduceLT, Int.reduceLE, Int.reduceNeg]
            exact ⟨⟨k + 1, rfl, by omega, fun j hj => by
              by_cases hjk : j < k
              · exact hbelow j hjk
              · obtain rfl : j = k := by omega
                exact hc⟩, by omega⟩
          · have e := eq_false hc
            by_cases he : q[k] = l[i]
            · have e' := eq_true he
              simp +contextual only [s0, s3, s4, s5, hW, ga, ia', ld', ia, ld, e, e', wi, ↓wA, wC, Ex.ends, evR, oneOf, top, ↓reduceIte, Nat.reduceEqDiff, Nat.reduceLeDiff, Nat.reduceAdd, Nat.reduceSub, Nat.reduceMul, reduceCtorEq, Int.reduceEq, Int.reduceLT, Int.reduceLE, Int.reduceNeg]
              refine ⟨⟨hx, i + 1, w, rfl, hlt, rfl, ?_⟩, by omega⟩
              rw [hri, ins_at hk hbelow (fun _ => hc), if_pos ⟨ha, he⟩]
              exact O
            · have e' := eq_false he
              simp +contextual only [s0, s3, s4, s5, hW, ga, ia', ld', ia, ld, e, e', wi, a1, a2, a4, a5, a6, ld2, ↓wA, wC, Ex.ends, evR, oneOf, top, ↓reduceIte, Nat.reduceEqDiff, Nat.reduceLeDiff, Nat.reduceAdd, Nat.reduceSub, Nat.reduceMul, reduceCtorEq, Int.reduceEq, Int.reduceLT, Int.reduceLE, Int.reduceNeg]
              refine ⟨by have := lds (g2.new (.ofL [.int .i64 l[i]] 0 false)) (a3.new _); rw [get_new] at this; exact this, ⟨ext5, i + 1, v5, rfl, hlt, rfl, ?_⟩, by omega⟩
              rw [hri, done (fun _ => hc) (fun ⟨_, p⟩ => he p)]
              exact a8
        · have ga : ((k : Int) < (q.length : Int)) = False := eq_false (by omega)
          simp +contextual only [s0, s3, s4, s5, hW, ga, ia, ld, wi, a1, a2, a4, a5, a6, ld2, ↓wA, wC, Ex.ends, evR, oneOf, top, ↓reduceIte, Nat.reduceEqDiff, Nat.reduceLeDiff, Nat.reduceAdd, Nat.reduceSub, Nat.reduceMul, reduceCtorEq, Int.reduceEq, Int.reduceLT, Int.reduceLE, Int.reduceNeg]
          refine ⟨by have := lds (g2.new (.ofL [.int .i64 l[i]] 0 false)) (a3.new _); rw [get_new] at this; exact this, ⟨ext5, i + 1, v5, rfl, hlt, rfl, ?_⟩, by omega⟩
          rw [hri, done (fun p => absurd p ha) (fun ⟨p, _⟩ => ha p)]
          exact a8
    · have g0 : ((i : Int) < (l.length : Int)) = False := eq_false (by omega)
      rw [List.take_of_length_le (by omega)] at O
      simp +contextual only [r0, r3, r4, hL, g0, ↓wA, wC, Ex.ends, evR, oneOf, top, ↓reduceIte, Nat.reduceEqDiff, Nat.reduceLeDiff, Nat.reduceAdd, Nat.reduceSub, Nat.reduceMul, reduceCtorEq, Int.reduceEq, Int.reduceLT, Int.reduceLE, Int.reduceNeg]
      exact ⟨O, hx⟩
end Go.Proofs.YtjbiefneffiogaaGreat

namespace Go.Proofs.YtjbiefneffiogaaGreat
open Go Am
theorem Grown.side {hb h0 g g' : Heap} {v0 w : V} {l : List Int} {M : Pa → Prop} (G : Grown hb h0 v0 g l w) (m : Mod M g g') (hM : ∀ b, M b → h0.next ≤ unPa b ∧ ¬ w.blk b) (hn : hb.next ≤ h0.next) : Grown hb h0 v0 g' l w :=
  ⟨G.ext.mod_new m (fun b hb => Nat.le_trans hn (hM b hb).1), G.own.mod m (fun b q1 q2 => (hM b q2).2 q1), Mod_next G.mod m (fun b ho q => by have := (hM b q).1; unfold Old at ho; omega), G.new⟩
theorem amongB_contains (l : List Int) (n : Int) : amongB l n = l.contains n := by
  unfold amongB
  rw [List.contains_eq_any_beq]
  congr 1
  funext m
  by_cases h : m = n
  · subst h; simp
  · have : ¬ n = m := fun e => h e.symm
    simp [h, this]
theorem usedA_cons (b : List Int) (q : At) (a : List At) : usedA b (q :: a) = (if q.k = 1 ∧ b.contains q.n = false then [q.n] else []) ++ usedA b a := by
  unfold usedA
  by_cases h1 : q.k = 1
  · by_cases h2 : q.n ∈ b
    · simp [List.filter_cons, h1, h2]
    · simp [List.filter_cons, h1, h2]
  · simp [List.filter_cons, h1]
theorem orders_at (late : Bool) (x : Int) : ∀ (l : List Co) (j i : Nat) (d : Co), l[i]? = some d → (order d).length + (if (late && j + i == 1) = true then 1 else 0) ≤ (orders late x l j).length
  | [], _, _, _, h => by simp at h
  | c :: l, j, 0, d, h => by
    simp only [List.getElem?_cons_zero, Option.some.injEq] at h
    subst h
    simp only [orders, List.length_append, Nat.add_zero]
    split <;> simp <;> omega
  | c :: l, j, i + 1, d, h => by
    have := orders_at late x l (j + 1) i d (by simpa using h)
    simp only [orders, List.length_append]
    rw [show j + 1 + i = j + (i + 1) from by omega] at this
    omega
theorem frees_two {x : Int} {b : List Int} : ∀ {l : List Co} (h : l.length = 2), frees true x l b 0 = free (l[0]'(by omega)) b ++ free (l[1]'(by omega)) (b ++ [x])
  | [p, q], _ => by simp [frees]
set_option maxHeartbeats 4000000 in
theorem rfree_ctr : ∀ (N : Nat) (c : Co), size c ≤ N → fit 1048576 c → okC c → ∀ (vs : List V) (hb : Heap), CoIn hb c vs → ∀ (h : Heap) (bnd : List Int) (vb : V) (acc : List Int) (vo : V), Ext hb h → SlV h 1 vb bnd.length (intsV bnd) → SlO hb.next h 1 vo acc.length (intsV acc) →
    (∀ b, vb.blk b → ¬ vo.blk b) → bnd.length + (order c).length ≤ 8000000 → acc.length + (free c bnd).length ≤ 8000000 →
    Ctr Tryz.prog 54 [.agg vs, vb, vo] h fun x h' => Grown hb h vo h' (acc ++ free c bnd) x
  | 0, c, hs, _, _, _, _, _, _, _, _, _, _, _, _, _, _, _, _ => by have := size_pos c; omega
  | N + 1, c, hs, hf, hok, vs, hb, H, h, bnd, vb, acc, vo, hbh, hbnd, hown, hdis, hlb, hl => by
    obtain ⟨f1, f2, f3, f4, f5⟩ := hf.kids
    have hsl := size_l c
    obtain ⟨va, vt, vl, rfl, Ha, Ht, Hl⟩ := H.open
    have hok' : (c.k = 8 → 1 ≤ c.l.length) ∧ c.k ≠ 14 ∧ (lateB c.k = true → c.l.length = 2) ∧ oks c.l := by cases c; exact hok
    obtain ⟨k1, k2, k3, k4⟩ := hok'
    have hord : order c = ownNames c.k c.x c.l ++ orders (lateB c.k) c.x c.l 0 := by cases c; rfl
    have hfree : free c bnd = usedA bnd c.a ++ frees (lateB c.k) c.x c.l (bnd ++ ownNames c.k c.x c.l) 0 := by cases c; rfl
    have hordl := congrArg List.length hord
    rw [List.length_append] at hordl
    have hfreel := congrArg List.length hfree
    rw [List.length_append] at hfreel
    have kid : ∀ (i : Nat) (d : Co) (u : List V) (g : Heap) (bn : List Int) (wv : V) (l : List Int) (w : V), c.l[i]? = some d → CoIn hb d u → Ext hb g → SlV g 1 wv bn.length (intsV bn) → SlO hb.next g 1 w l.length (intsV l) → (∀ b, wv.blk b → ¬ w.blk b) → bn.length + (order d).length ≤ 8000000 → l.length + (free d bn).length ≤ 8000000 →
        Ctr Tryz.prog 54 [.agg u, wv, w] g fun x h' => Grown hb g w h' (l ++ free d bn) x :=
      fun i d u g bn wv l w hi hu hg hwv hw hd hl1 hl2 => rfree_ctr N d (by have := size_idx hi; omega) (fits_at f5 hi) (oks_at k4 hi) u hb hu g bn wv l w hg hwv hw hd hl1 hl2
    refine c54_ctr rfl (wpK_of ?_)
    unfold c54
    have e0 : Ext h (h.new (.ofL [.int .i64 c.k, .int .i64 c.x, .int .i64 c.n, .str c.s, va, vt, vl] 0 false)) := (Ext.refl h).new _
    have G0 : Grown hb h vo (h.new (.ofL [.int .i64 c.k, .int .i64 c.x, .int .i64 c.n, .str c.s, va, vt, vl] 0 false)) acc vo := (Grown.start hbh hown).keep e0
    have hvo : ∀ b, vo.blk b → unPa b < h.next := fun b hb => hown.v.old hb
    have hvb : ∀ b, vb.blk b → unPa b < h.next := fun b hb => hbnd.old hb
    have cb : (h.new (.ofL [.int .i64 c.k, .int .i64 c.x, .int .i64 c.n, .str c.s, va, vt, vl] 0 false)).get (pa h.next) = .ofL [.int .i64 c.k, .int .i64 c.x, .int .i64 c.n, .str c.s, va, vt, vl] 0 false := get_new_self _
    have cn : (h.new (.ofL [.int .i64 c.k, .int .i64 c.x, .int .i64 c.n, .str c.s, va, vt, vl] 0 false)).next = h.next + 1 := next_new _ _
    have hbn : hb.next ≤ h.next := hbh.next
    simp +contextual only [↓wA, wC, Ex.ends, evR, oneOf, top, ↓reduceIte, Nat.reduceEqDiff, Nat.reduceLeDiff, Nat.reduceAdd, Nat.reduceSub, Nat.reduceMul, reduceCtorEq, Int.reduceEq, Int.reduceLT, Int.reduceLE, Int.reduceNeg]
    generalize hH0 : (h.new (.ofL [.int .i64 c.k, .int .i64 c.x, .int .i64 c.n, .str c.s, va, vt, vl] 0 false)) = H0 at *
    have box : ∀ (g : Heap) (l : List Int) (w : V), Grown hb H0 vo g l w → g.get (pa h.next) = .ofL [.int .i64 c.k, .int .i64 c.x, .int .i64 c.n, .str c.s, va, vt, vl] 0 false ∧ h.next < g.next ∧ ¬ w.blk (pa h.next) := by
      intro g l w G
      have hnb : ¬ vo.blk (pa h.next) := fun q => by have := hvo _ q; rw [unPa_pa] at this; omega
      exact ⟨by rw [G.mod.get _ (old_lt (by rw [cn]; omega)) hnb]; exact cb, by have := G.mod.next; omega, G.off (old_lt (by rw [cn]; omega)) hnb⟩
    have bndIn : ∀ (g : Heap) (l : List Int) (w : V), Grown hb H0 vo g l w → SlV g 1 vb bnd.length (intsV bnd) ∧ ∀ b, vb.blk b → ¬ w.blk b := fun g l w G =>
      ⟨(hbnd.ext e0).mod G.mod hdis, fun b q => G.off (by have := hvb b q; unfold Old; omega) (hdis b q)⟩
    have fin : ∀ (g : Heap) (l : List Int) (w : V), Grown hb H0 vo g l w → Grown hb h vo g l w := fun g l w G => G0.call G
    have G1 : Grown hb H0 vo H0 acc vo := Grown.start G0.ext G0.own
    have loop : ∀ (g : Heap) (bn : List Int) (wv : V) (l : List Int) (w : V) (r : RF) (ks : List KS) (Q : Ex → RF → Heap → Prop), Grown hb H0 vo g l w → SlV g 1 wv bn.length (intsV bn) → (∀ b, wv.blk b → ¬ w.blk b) → lateB c.k = false → bn = bnd ++ ownNames c.k c.x c.l → l = acc ++ usedA bnd c.a → r 2 = w → r 3 = .ptr (pa h.next) 0 → r 8 = wv → r 10 = .int .i64 0 →
        (∀ g' w' r', Grown hb H0 vo g' (acc ++ free c bnd) w' → r' 2 = w' → wpK Tryz.prog ks (.exit 5) r' g' Q) → loopK Tryz.prog c54l3 ks r g Q := by
      intro g bn wv l w r ks Q G hwv hdw hlate hbn' hl0 q2 q3 q8 q10 hK
      refine loopK_intro (fun r h' => r 3 = .ptr (pa h.next) 0 ∧ r 8 = wv ∧ SlV h' 1 wv bn.length (intsV bn) ∧ ∃ (i : Nat) (done : List Int) (w : V), r 10 = .int .i64 i ∧ i ≤ c.l.length ∧ r 2 = w ∧ Grown hb H0 vo h' done w ∧ (∀ b, wv.blk b → ¬ w.blk b) ∧ done ++ frees false c.x (c.l.drop i) bn i = acc ++ free c bnd) (fun r h' => c.l.length - (r 10).toN) ?_ ?_
      · exact ⟨q3, q8, hwv, 0, l, w, by rw [q10]; rfl, by omega, q2, G, hdw, by rw [hl0, hfree, hlate, hbn', List.drop_zero, List.append_assoc]⟩
      · rintro r h' ⟨r3, r8, hwv, i, done, w, r10, hi, r2, Gi, hdw, hdone⟩
        unfold c54l3
        obtain ⟨bx, nx, _⟩ := box _ _ _ Gi
        have hL := (Hl.ext Gi.ext).len
        by_cases hlt : i < c.l.length
        · have g0 : ((i : Int) < (c.l.length : Int)) = True := eq_true (by omega)
          obtain ⟨b, o, u, ia, hu, lds⟩ := Hl.atx (k := .i64) hlt
          have ld := (lds h' Gi.ext).1
          have wi := w_inc hlt (by omega)
          have hfi := List.getElem?_eq_getElem hlt
          have hoa := orders_at (lateB c.k) c.x c.l 0 i _ hfi
          rw [List.drop_eq_getElem_cons hlt, frees] at hdone
          rw [show (if (false && i == 1) = true then bn ++ [c.x] else bn) = bn from rfl] at hdone
          have hlen := congrArg List.length hdone
          simp only [List.length_append] at hlen
          have hbl := congrArg List.length hbn'
          rw [List.length_append] at hbl
          simp +contextual only [r2, r3, r8, r10, bx, hL, g0, ia, ld, ↓wA, wC, Ex.ends, evR, oneOf, top, ↓reduceIte, Nat.reduceEqDiff, Nat.reduceLeDiff, Nat.reduceAdd, Nat.reduceSub, Nat.reduceMul, reduceCtorEq, Int.reduceEq, Int.reduceLT, Int.reduceLE, Int.reduceNeg]
          refine callK_intro (kid i _ u h' bn wv done w hfi hu Gi.ext hwv Gi.own hdw (by omega) (by omega)) ?_
          rintro x g2 G2
          simp +contextual only [r3, r8, r10, wi, ↓wA, wC, Ex.ends, evR, oneOf, top, ↓reduceIte, Nat.reduceEqDiff, Nat.reduceLeDiff, Nat.reduceAdd, Nat.reduceSub, Nat.reduceMul, reduceCtorEq, Int.reduceEq, Int.reduceLT, Int.reduceLE, Int.reduceNeg]
          exact ⟨⟨hwv.mod G2.mod hdw, i + 1, done ++ free c.l[i] bn, x, rfl, hlt, rfl, Gi.call G2, fun b q => G2.off (hwv.old q) (hdw b q), by rw [List.append_assoc]; exact hdone⟩, by omega⟩
        · have g0 : ((i : Int) < (c.l.length : Int)) = False := eq_false (by omega)
          rw [List.drop_eq_nil_of_le (by omega), frees, List.append_nil] at hdone
          rw [hdone] at Gi
          simp +contextual only [r2, r3, r8, r10, bx, hL, g0, ↓wA, wC, Ex.ends, evR, oneOf, top, ↓reduceIte, Nat.reduceEqDiff, Nat.reduceLeDiff, Nat.reduceAdd, Nat.reduceSub, Nat.reduceMul, reduceCtorEq, Int.reduceEq, Int.reduceLT, Int.reduceLE, Int.reduceNeg]
          exact hK _ w _ Gi (by simp only [r2, ↓wA, wC, ↓reduceIte, Nat.reduceEqDiff, reduceCtorEq])
    refine loopK_intro (fun r h' => r 0 = r 0 ∧ r 1 = vb ∧ r 3 = .ptr (pa h.next) 0 ∧ ∃ (i : Nat) (done : List Int) (w : V), r 7 = .int .i64 i ∧ i ≤ c.a.length ∧ r 2 = w ∧ Grown hb H0 vo h' done w ∧ done ++ usedA bnd (c.a.drop i) = acc ++ usedA bnd c.a) (fun r h' => c.a.length - (r 7).toN) ?_ ?_
    · exact ⟨rfl, by simp only [↓wA, wC, ↓reduceIte, Nat.reduceEqDiff, reduceCtorEq], by simp only [↓wA, wC, ↓reduceIte, Nat.reduceEqDiff, reduceCtorEq], 0, acc, vo, by simp only [↓wA, wC, ↓reduceIte, Nat.reduceEqDiff, reduceCtorEq] <;> rfl, by omega, by simp only [↓wA, wC, ↓reduceIte, Nat.reduceEqDiff, reduceCtorEq], G1, by rw [List.drop_zero]⟩
    · rintro r g ⟨_, r1, r3, i, done, w, r7, hi, r2, Gi, hdone⟩
      unfold c54l1
      obtain ⟨bx, nx, _⟩ := box _ _ _ Gi
      have hL := (Ha.ext Gi.ext).len
      by_cases hlt : i < c.a.length
      · have g0 : ((i : Int) < (c.a.length : Int)) = True := eq_true (by omega)
        obtain ⟨b, o, ia, ldn, ld⟩ := ats_at (Ha.ext Gi.ext) (k := .i64) hlt
        have l0 := ld 0 (by omega)
        have l1 := ld 1 (by omega)
        have wi := w_inc hlt (by omega)
        rw [List.drop_eq_getElem_cons hlt, usedA_cons] at hdone
        generalize c.a[i] = q at *
        rw [show q.enc[0]? = some (.int .i64 q.k) from rfl, Nat.add_zero] at l0
        rw [show q.enc[1]? = some (.int .i64 q.n) from rfl] at l1
        by_cases hq : q.k = 1
        · have eq := eq_true hq
          simp +contextual only [r1, r2, r3, r7, bx, hL, g0, ia, l0, l1, eq, ↓wA, wC, Ex.ends, evR, oneOf, top, ↓reduceIte, Nat.reduceEqDiff, Nat.reduceLeDiff, Nat.reduceAdd, Nat.reduceSub, Nat.reduceMul, reduceCtorEq, Int.reduceEq, Int.reduceLT, Int.reduceLE, Int.reduceNeg]
          refine callK_intro (among_ctr bnd q.n vb g (bndIn _ _ _ Gi).1 (by omega)) ?_
          rintro x g2 ⟨rfl, rfl⟩
          cases hm : amongB bnd q.n with
          | true =>
            rw [if_neg (fun p => by rw [← amongB_contains, hm] at p; exact absurd p.2 (by simp)), List.nil_append] at hdone
            simp +contextual only [r1, r2, r3, r7, wi, ↓wA, wC, Ex.ends, evR, oneOf, top, ↓reduceIte, Nat.reduceEqDiff, Nat.reduceLeDiff, Nat.reduceAdd, Nat.reduceSub, Nat.reduceMul, reduceCtorEq, Int.reduceEq, Int.reduceLT, Int.reduceLE, Int.reduceNeg]
            exact ⟨⟨i + 1, done, w, rfl, hlt, rfl, Gi, hdone⟩, by omega⟩
          | false =>
            rw [if_pos ⟨hq, by rw [← amongB_contains, hm]⟩, ← List.append_assoc] at hdone
            have hlen := congrArg List.length hdone
            simp only [List.length_append, List.length_cons, List.length_nil] at hlen
            obtain ⟨v3, h3, q1, q2, q3, q4, q5⟩ := app_one (cs := [.int .i64 q.n]) (by omega) Gi.own Gi.ext.next (by unfold top; omega) rfl rfl
            have G3 := Gi.step (m := [q.n]) q2 q3 (fun b hb => (q5 b hb).imp id (fun q => by omega))
            simp +contextual only [r1, r2, r3, r7, bx, ia, l1, q1, wi, ↓wA, wC, Ex.ends, evR, oneOf, top, ↓reduceIte, Nat.reduceEqDiff, Nat.reduceLeDiff, Nat.reduceAdd, Nat.reduceSub, Nat.reduceMul, reduceCtorEq, Int.reduceEq, Int.reduceLT, Int.reduceLE, Int.reduceNeg]
            exact ⟨⟨i + 1, _, v3, rfl, hlt, rfl, G3, hdone⟩, by omega⟩
        · have eq := eq_false hq
          rw [if_neg (fun p => hq p.1), List.nil_append] at hdone
          simp +contextual only [r1, r2, r3, r7, bx, hL, g0, ia, l0, l1, eq, wi, ↓wA, wC, Ex.ends, evR, oneOf, top, ↓reduceIte, Nat.reduceEqDiff, Nat.reduceLeDiff, Nat.reduceAdd, Nat.reduceSub, Nat.reduceMul, reduceCtorEq, Int.reduceEq, Int.reduceLT, Int.reduceLE, Int.reduceNeg]
          exact ⟨⟨i + 1, done, w, rfl, hlt, rfl, Gi, hdone⟩, by omega⟩
      · have g0 : ((i : Int) < (c.a.length : Int)) = False := eq_false (by omega)
        rw [List.drop_eq_nil_of_le (by omega), show usedA bnd [] = [] from rfl, List.append_nil] at hdone
        subst hdone
        obtain ⟨hbg, hbw⟩ := bndIn _ _ _ Gi
        have es : Ext g (g.new (.ofL [] 0 false)) := (Ext.refl g).new _
        obtain ⟨wv, g2, p1, p2, p3, p4⟩ := app_own (B := g.next) (Nat.le_refl 1) (SlO.empty (h := g) 1 (Nat.le_refl _)) (hbg.ext es) (by rw [next_new]; omega) (by unfold top; omega) (intsV_ones _)
        have e2 : Ext g g2 := es.mod_new p3 (fun b hb => by
          have : b = pa g.next := hb
          rw [this, unPa_pa]; exact Nat.le_refl _)
        rw [List.nil_append, Nat.zero_add] at p2
        have G2 := Gi.keep e2
        obtain ⟨bx2, nx2, _⟩ := box _ _ _ G2
        obtain ⟨hbg2, _⟩ := bndIn _ _ _ G2
        have hwold : ∀ b, w.blk b → unPa b < g.next := fun b q => Gi.own.v.old q
        have hdw : ∀ b, wv.blk b → H0.next ≤ unPa b ∧ ¬ w.blk b := fun b q => ⟨by have := p2.base q; have := Gi.mod.next; omega, fun q' => by have := p2.base q; have := hwold b q'; omega⟩
        have hHn : hb.next ≤ H0.next := by omega
        by_cases h2 : c.k = 2
        · have e2' := eq_true h2
          have hlate : lateB c.k = true := by simp [lateB, h2]
          have hl2 := k3 hlate
          obtain ⟨b, o, u, ia, hu, lds⟩ := Hl.atx (k := .i64) (i := 0) (by omega)
          obtain ⟨b', o', u', ia', hu', lds'⟩ := Hl.atx (k := .i64) (i := 1) (by omega)
          have ia0 : iaV 7 vl (.int .i64 0) = some (.ptr b o) := by simpa using ia
          have ia1 : iaV 7 vl (.int .i64 1) = some (.ptr b' (o' + 7)) := by simpa using ia'
          have ld0 : ∀ g, Ext hb g → ldnB 7 (g.get b) o = some (.agg u) := fun g e => by simpa using (lds g e).1
          have ld1 : ∀ g, Ext hb g → ldnB 7 (g.get b') (o' + 7) = some (.agg u') := fun g e => by simpa using (lds' g e).1
          have hon : ownNames c.k c.x c.l = [] := by rw [ownNames, if_neg (by omega), if_neg (by omega)]
          have hfree2 : free c bnd = usedA bnd c.a ++ (free c.l[0] bnd ++ free c.l[1] (bnd ++ [c.x])) := by
            rw [hfree, hlate, hon, List.append_nil, frees_two hl2]
          have hlen := congrArg List.length hfree2
          simp only [List.length_append] at hlen
          have hoa := orders_at (lateB c.k) c.x c.l 0 0 _ (List.getElem?_eq_getElem (by omega))
          have hob : (order c.l[1]).length + 1 ≤ (orders (lateB c.k) c.x c.l 0).length := by
            have := orders_at (lateB c.k) c.x c.l 0 1 _ (List.getElem?_eq_getElem (by omega))
            rw [hlate] at this ⊢
            exact this
          simp +contextual only [r1, r2, r3, r7, bx, hL, g0, p1, bx2, e2', ia0, ld0 g2 G2.ext, ↓wA, wC, Ex.ends, evR, oneOf, top, ↓reduceIte, Nat.reduceEqDiff, Nat.reduceLeDiff, Nat.reduceAdd, Nat.reduceSub, Nat.reduceMul, reduceCtorEq, Int.reduceEq, Int.reduceLT, Int.reduceLE, Int.reduceNeg]
          refine callK_intro (kid 0 _ u g2 bnd vb (acc ++ usedA bnd c.a) w (List.getElem?_eq_getElem (by omega)) hu G2.ext hbg2 G2.own hbw (by omega) (by simp only [List.length_append]; omega)) ?_
          rintro x g3 G3
          have G3' := G2.call G3
          obtain ⟨bx3, nx3, _⟩ := box _ _ _ G3'
          have pw3 : SlO g.next g3 1 wv bnd.length (intsV bnd) := p2.mod G3.mod (fun b q => (hdw b q).2)
          have hdx : ∀ b, wv.blk b → H0.next ≤ unPa b ∧ ¬ x.blk b := fun b q => ⟨(hdw b q).1, G3.off (p2.v.old q) (hdw b q).2⟩
          obtain ⟨w4, g4, a1, a2, a3, a4, a5⟩ := app_one (cs := [.int .i64 c.x]) (by omega) pw3 (by have := G3.mod.next; have := e2.next; omega) (by unfold top; omega) rfl rfl
          have G4 := G3'.side a3 hdx hHn
          obtain ⟨bx4, nx4, _⟩ := box _ _ _ G4
          have e3x : Ext g3 (g3.new (.ofL [.int .i64 c.x] 0 false)) := (Ext.refl g3).new _
          have bx3x : (g3.new (.ofL [.int .i64 c.x] 0 false)).get (pa h.next) = .ofL [.int .i64 c.k, .int .i64 c.x, .int .i64 c.n, .str c.s, va, vt, vl] 0 false := by rw [e3x.get _ (old_lt nx3)]; exact bx3
          simp +contextual only [r1, r2, r3, bx2, bx3, bx3x, bx4, a1, ia1, ld1 g3 G3'.ext, ld1 g4 G4.ext, ld1 _ (G3'.ext.trans e3x), ↓wA, wC, Ex.ends, evR, oneOf, top, ↓reduceIte, Nat.reduceEqDiff, Nat.reduceLeDiff, Nat.reduceAdd, Nat.reduceSub, Nat.reduceMul, reduceCtorEq, Int.reduceEq, Int.reduceLT, Int.reduceLE, Int.reduceNeg]
          have hd4 : ∀ b, w4.blk b → ¬ x.blk b := fun b q q' => by
            rcases a5 b q with q | q
            · exact (hdx b q).2 q'
            · have : unPa b < g3.next := G3'.own.v.old q'
              omega
          refine callK_intro (kid 1 _ u' g4 (bnd ++ [c.x]) w4 (acc ++ usedA bnd c.a ++ free c.l[0] bnd) x (List.getElem?_eq_getElem (by omega)) hu' G4.ext (by rw [List.length_append, intsV_app]; exact a2.v) G4.own hd4 (by simp only [List.length_append, List.length_cons, List.length_nil]; omega) (by simp only [List.length_append]; omega)) ?_
          rintro y g5 G5
          have G5' := G4.call G5
          obtain ⟨bx5, nx5, _⟩ := box _ _ _ G5'
          have hfin : Grown hb h vo g5 (acc ++ free c bnd) y := by
            have := fin _ _ _ G5'
            rw [hfree2]
            simpa only [List.append_assoc] using this
          simp +contextual only [r1, r2, r3, bx2, bx3, bx3x, bx4, bx5, ia1, ld1 g3 G3'.ext, ld1 g4 G4.ext, ld1 _ (G3'.ext.trans e3x), ↓wA, wC, Ex.ends, evR, oneOf, top, ↓reduceIte, Nat.reduceEqDiff, Nat.reduceLeDiff, Nat.reduceAdd, Nat.reduceSub, Nat.reduceMul, reduceCtorEq, Int.reduceEq, Int.reduceLT, Int.reduceLE, Int.reduceNeg]
          refine ⟨?_, hfin⟩
          have := ld1 _ (G3'.ext.trans e3x)
          rw [get_new] at this
          exact this
        have e2' := eq_false h2
        by_cases h11 : c.k = 11
        · have e11 := eq_true h11
          have hlate : lateB c.k = true := by simp [lateB, h11]
          have hl2 := k3 hlate
          obtain ⟨b, o, u, ia, hu, lds⟩ := Hl.atx (k := .i64) (i := 0) (by omega)
          obtain ⟨b', o', u', ia', hu', lds'⟩ := Hl.atx (k := .i64) (i := 1) (by omega)
          have ia0 : iaV 7 vl (.int .i64 0) = some (.ptr b o) := by simpa using ia
          have ia1 : iaV 7 vl (.int .i64 1) = some (.ptr b' (o' + 7)) := by simpa using ia'
          have ld0 : ∀ g, Ext hb g → ldnB 7 (g.get b) o = some (.agg u) := fun g e => by simpa using (lds g e).1
          have ld1 : ∀ g, Ext hb g → ldnB 7 (g.get b') (o' + 7) = some (.agg u') := fun g e => by simpa using (lds' g e).1
          have hon : ownNames c.k c.x c.l = [] := by rw [ownNames, if_neg (by omega), if_neg (by omega)]
          have hfree2 : free c bnd = usedA bnd c.a ++ (free c.l[0] bnd ++ free c.l[1] (bnd ++ [c.x])) := by
            rw [hfree, hlate, hon, List.append_nil, frees_two hl2]
          have hlen := congrArg List.length hfree2
          simp only [List.length_append] at hlen
          have hoa := orders_at (lateB c.k) c.x c.l 0 0 _ (List.getElem?_eq_getElem (by omega))
          have hob : (order c.l[1]).length + 1 ≤ (orders (lateB c.k) c.x c.l 0).length := by
            have := orders_at (lateB c.k) c.x c.l 0 1 _ (List.getElem?_eq_getElem (by omega))
            rw [hlate] at this ⊢
            exact this
          simp +contextual only [r1, r2, r3, r7, bx, hL, g0, p1, bx2, e2', e11, ia0, ld0 g2 G2.ext, ↓wA, wC, Ex.ends, evR, oneOf, top, ↓reduceIte, Nat.reduceEqDiff, Nat.reduceLeDiff, Nat.reduceAdd, Nat.reduceSub, Nat.reduceMul, reduceCtorEq, Int.reduceEq, Int.reduceLT, Int.reduceLE, Int.reduceNeg]
          refine callK_intro (kid 0 _ u g2 bnd vb (acc ++ usedA bnd c.a) w (List.getElem?_eq_getElem (by omega)) hu G2.ext hbg2 G2.own hbw (by omega) (by simp only [List.length_append]; omega)) ?_
          rintro x g3 G3
          have G3' := G2.call G3
          obtain ⟨bx3, nx3, _⟩ := box _ _ _ G3'
          have pw3 : SlO g.next g3 1 wv bnd.length (intsV bnd) := p2.mod G3.mod (fun b q => (hdw b q).2)
          have hdx : ∀ b, wv.blk b → H0.next ≤ unPa b ∧ ¬ x.blk b := fun b q => ⟨(hdw b q).1, G3.off (p2.v.old q) (hdw b q).2⟩
          obtain ⟨w4, g4, a1, a2, a3, a4, a5⟩ := app_one (cs := [.int .i64 c.x]) (by omega) pw3 (by have := G3.mod.next; have := e2.next; omega) (by unfold top; omega) rfl rfl
          have G4 := G3'.side a3 hdx hHn
          obtain ⟨bx4, nx4, _⟩ := box _ _ _ G4
          have e3x : Ext g3 (g3.new (.ofL [.int .i64 c.x] 0 false)) := (Ext.refl g3).new _
          have bx3x : (g3.new (.ofL [.int .i64 c.x] 0 false)).get (pa h.next) = .ofL [.int .i64 c.k, .int .i64 c.x, .int .i64 c.n, .str c.s, va, vt, vl] 0 false := by rw [e3x.get _ (old_lt nx3)]; exact bx3
          simp +contextual only [r1, r2, r3, bx2, bx3, bx3x, bx4, a1, ia1, ld1 g3 G3'.ext, ld1 g4 G4.ext, ld1 _ (G3'.ext.trans e3x), ↓wA, wC, Ex.ends, evR, oneOf, top, ↓reduceIte, Nat.reduceEqDiff, Nat.reduceLeDiff, Nat.reduceAdd, Nat.reduceSub, Nat.reduceMul, reduceCtorEq, Int.reduceEq, Int.reduceLT, Int.reduceLE, Int.reduceNeg]
          have hd4 : ∀ b, w4.blk b → ¬ x.blk b := fun b q q' => by
            rcases a5 b q with q | q
            · exact (hdx b q).2 q'
            · have : unPa b < g3.next := G3'.own.v.old q'
              omega
          refine callK_intro (kid 1 _ u' g4 (bnd ++ [c.x]) w4 (acc ++ usedA bnd c.a ++ free c.l[0] bnd) x (List.getElem?_eq_getElem (by omega)) hu' G4.ext (by rw [List.length_append, intsV_app]; exact a2.v) G4.own hd4 (by simp only [List.length_append, List.length_cons, List.length_nil]; omega) (by simp only [List.length_append]; omega)) ?_
          rintro y g5 G5
          have G5' := G4.call G5
          obtain ⟨bx5, nx5, _⟩ := box _ _ _ G5'
          have hfin : Grown hb h vo g5 (acc ++ free c bnd) y := by
            have := fin _ _ _ G5'
            rw [hfree2]
            simpa only [List.append_assoc] using this
          simp +contextual only [r1, r2, r3, bx2, bx3, bx3x, bx4, bx5, ia1, ld1 g3 G3'.ext, ld1 g4 G4.ext, ld1 _ (G3'.ext.trans e3x), ↓wA, wC, Ex.ends, evR, oneOf, top, ↓reduceIte, Nat.reduceEqDiff, Nat.reduceLeDiff, Nat.reduceAdd, Nat.reduceSub, Nat.reduceMul, reduceCtorEq, Int.reduceEq, Int.reduceLT, Int.reduceLE, Int.reduceNeg]
          refine ⟨?_, hfin⟩
          have := ld1 _ (G3'.ext.trans e3x)
          rw [get_new] at this
          exact this
        have e11 := eq_false h11
        have hlate : lateB c.k = false := by simp [lateB, h2, h11]
        by_cases h7 : c.k = 7
        · have e7 := eq_true h7
          have hon : ownNames c.k c.x c.l = [c.x] := by rw [ownNames, if_pos h7]
          have honl := congrArg List.length hon
          simp only [List.length_cons, List.length_nil] at honl
          obtain ⟨w4, g4, a1, a2, a3, a4, a5⟩ := app_one (cs := [.int .i64 c.x]) (by omega) p2 (by have := e2.next; omega) (by unfold top; omega) rfl rfl
          have G4 := G2.side a3 hdw hHn
          have hd4 : ∀ b, w4.blk b → ¬ w.blk b := fun b q q' => by
            rcases a5 b q with q | q
            · exact (hdw b q).2 q'
            · have := hwold b q'; have := e2.next; omega
          simp +contextual only [r1, r2, r3, r7, bx, hL, g0, p1, bx2, e2', e11, e7, a1, ↓wA, wC, Ex.ends, evR, oneOf, top, ↓reduceIte, Nat.reduceEqDiff, Nat.reduceLeDiff, Nat.reduceAdd, Nat.reduceSub, Nat.reduceMul, reduceCtorEq, Int.reduceEq, Int.reduceLT, Int.reduceLE, Int.reduceNeg]
          refine loop g4 (bnd ++ [c.x]) w4 _ w _ _ _ G4 (by rw [List.length_append, intsV_app]; exact a2.v) hd4 hlate (by rw [hon]) rfl (by simp only [r2, ↓wA, wC, ↓reduceIte, Nat.reduceEqDiff, reduceCtorEq]) (by simp only [r3, ↓wA, wC, ↓reduceIte, Nat.reduceEqDiff, reduceCtorEq]) (by simp only [↓wA, wC, ↓reduceIte, Nat.reduceEqDiff, reduceCtorEq]) (by simp only [↓wA, wC, ↓reduceIte, Nat.reduceEqDiff, reduceCtorEq]) ?_
          intro g' w' r' G' p1
          simp +contextual only [p1, ↓wA, wC, Ex.ends, evR, oneOf, top, ↓reduceIte, Nat.reduceEqDiff, Nat.reduceLeDiff, Nat.reduceAdd, Nat.reduceSub, Nat.reduceMul, reduceCtorEq, Int.reduceEq, Int.reduceLT, Int.reduceLE, Int.reduceNeg]
          exact fin _ _ _ G'
        have e7 := eq_false h7
        by_cases h8 : c.k = 8
        · have e8 := eq_true h8
          have hon : ownNames c.k c.x c.l = c.l.dropLast.map Co.n := by rw [ownNames, if_neg h7, if_pos h8]
          have honl := congrArg List.length hon
          rw [List.length_map, List.length_dropLast] at honl
          have hl1 := k1 h8
          have w0 : IntKind.i64.wrap ((c.l.length : Int) - 1) = ((c.l.length - 1 : Nat) : Int) := by rw [wrap_i64 (by omega) (by omega)]; omega
          simp +contextual only [r1, r2, r3, r7, bx, hL, g0, p1, bx2, e2', e11, e7, e8, ↓wA, wC, Ex.ends, evR, oneOf, top, ↓reduceIte, Nat.reduceEqDiff, Nat.reduceLeDiff, Nat.reduceAdd, Nat.reduceSub, Nat.reduceMul, reduceCtorEq, Int.reduceEq, Int.reduceLT, Int.reduceLE, Int.reduceNeg]
          refine loopK_intro (fun r h' => r 2 = w ∧ r 3 = .ptr (pa h.next) 0 ∧ ∃ (i : Nat) (wv : V), r 9 = .int .i64 i ∧ i ≤ c.l.length - 1 ∧ r 8 = wv ∧ Grown hb H0 vo h' (acc ++ usedA bnd c.a) w ∧ SlO g.next h' 1 wv (bnd ++ (c.l.take i).map Co.n).length (intsV (bnd ++ (c.l.take i).map Co.n)) ∧ g.next ≤ h'.next ∧ ∀ b, wv.blk b → H0.next ≤ unPa b ∧ ¬ w.blk b) (fun r h' => c.l.length - (r 9).toN) ?_ ?_
          · exact ⟨by simp only [r2, ↓wA, wC, ↓reduceIte, Nat.reduceEqDiff, reduceCtorEq], by simp only [r3, ↓wA, wC, ↓reduceIte, Nat.reduceEqDiff, reduceCtorEq], 0, wv, by simp only [↓wA, wC, ↓reduceIte, Nat.reduceEqDiff, reduceCtorEq] <;> rfl, by omega, by simp only [↓wA, wC, ↓reduceIte, Nat.reduceEqDiff, reduceCtorEq], G2, by simpa using p2, e2.next, hdw⟩
          · clear r1 r2 r3 r7 hdw p1 p2 p3 p4
            rintro r g5 ⟨r2, r3, i, wv, r9, hi, r8, Gi, pw, hgn, hdw⟩
            unfold c54l2
            obtain ⟨bx, nx, _⟩ := box _ _ _ Gi
            have hL := (Hl.ext Gi.ext).len
            by_cases hlt : i < c.l.length - 1
            · have g0 : ((i : Int) < ((c.l.length - 1 : Nat) : Int)) = True := eq_true (by omega)
              have hlt2 : i < c.l.length := by omega
              obtain ⟨b, o, u, ia, hu, lds⟩ := Hl.atx (k := .i64) hlt2
              have ldc := (lds g5 Gi.ext).2
              have wi := w_inc hlt2 (by omega)
              have htk : (c.l.take (i + 1)).map Co.n = (c.l.take i).map Co.n ++ [c.l[i].n] := by rw [List.take_add_one, List.getElem?_eq_getElem hlt2, List.map_append]; rfl
              have htl : ((c.l.take i).map Co.n).length = i := by rw [List.length_map, List.length_take]; omega
              generalize hfd : c.l[i] = f at *
              obtain ⟨fa, ft, fl, rfl, Fa, Ft, Fl⟩ := hu.open
              have l2 := ldc 2 (by omega)
              rw [show ([V.int .i64 f.k, .int .i64 f.x, .int .i64 f.n, .str f.s, fa, ft, fl])[2]? = some (.int .i64 f.n) from rfl] at l2
              obtain ⟨w4, g4, a1, a2, a3, a4, a5⟩ := app_one (cs := [.int .i64 f.n]) (by omega) pw hgn (by rw [List.length_append, htl]; unfold top; omega) rfl rfl
              have G4 := Gi.side a3 hdw hHn
              have hd4 : ∀ b, w4.blk b → H0.next ≤ unPa b ∧ ¬ w.blk b := fun b q => by
                rcases a5 b q with q | q
                · exact hdw b q
                · have := Gi.mod.next
                  exact ⟨by omega, fun q' => by have : unPa b < g5.next := Gi.own.v.old q'; omega⟩
              simp +contextual only [r2, r3, r8, r9, bx, hL, w0, g0, ia, l2, a1, wi, ↓wA, wC, Ex.ends, evR, oneOf, top, ↓reduceIte, Nat.reduceEqDiff, Nat.reduceLeDiff, Nat.reduceAdd, Nat.reduceSub, Nat.reduceMul, reduceCtorEq, Int.reduceEq, Int.reduceLT, Int.reduceLE, Int.reduceNeg]
              exact ⟨⟨i + 1, w4, rfl, by omega, rfl, G4, by rw [htk, ← List.append_assoc, intsV_app (bnd ++ (c.l.take i).map Co.n), List.length_append]; exact a2, by omega, hd4⟩, by omega⟩
            · have g0 : ((i : Int) < ((c.l.length - 1 : Nat) : Int)) = False := eq_false (by omega)
              obtain rfl : i = c.l.length - 1 := by omega
              simp +contextual only [r2, r3, r8, r9, bx, hL, w0, g0, ↓wA, wC, Ex.ends, evR, oneOf, top, ↓reduceIte, Nat.reduceEqDiff, Nat.reduceLeDiff, Nat.reduceAdd, Nat.reduceSub, Nat.reduceMul, reduceCtorEq, Int.reduceEq, Int.reduceLT, Int.reduceLE, Int.reduceNeg]
              refine loop g5 _ wv _ w _ _ _ Gi pw.v (fun b q => (hdw b q).2) hlate (by rw [hon, List.dropLast_eq_take]) rfl (by simp only [r2, ↓wA, wC, ↓reduceIte, Nat.reduceEqDiff, reduceCtorEq]) (by simp only [r3, ↓wA, wC, ↓reduceIte, Nat.reduceEqDiff, reduceCtorEq]) (by simp only [r8, ↓wA, wC, ↓reduceIte, Nat.reduceEqDiff, reduceCtorEq]) (by simp only [↓wA, wC, ↓reduceIte, Nat.reduceEqDiff, reduceCtorEq]) ?_
              intro g' w' r' G' p1
              simp +contextual only [p1, ↓wA, wC, Ex.ends, evR, oneOf, top, ↓reduceIte, Nat.reduceEqDiff, Nat.reduceLeDiff, Nat.reduceAdd, Nat.reduceSub, Nat.reduceMul, reduceCtorEq, Int.reduceEq, Int.reduceLT, Int.reduceLE, Int.reduceNeg]
              exact fin _ _ _ G'
        have e8 := eq_false h8
        have hon : ownNames c.k c.x c.l = [] := by rw [ownNames, if_neg h7, if_neg h8]
        simp +contextual only [r1, r2, r3, r7, bx, hL, g0, p1, bx2, e2', e11, e7, e8, ↓wA, wC, Ex.ends, evR, oneOf, top, ↓reduceIte, Nat.reduceEqDiff, Nat.reduceLeDiff, Nat.reduceAdd, Nat.reduceSub, Nat.reduceMul, reduceCtorEq, Int.reduceEq, Int.reduceLT, Int.reduceLE, Int.reduceNeg]
        refine loop g2 bnd wv _ w _ _ _ G2 p2.v (fun b q => (hdw b q).2) hlate (by rw [hon, List.append_nil]) rfl (by simp only [r2, ↓wA, wC, ↓reduceIte, Nat.reduceEqDiff, reduceCtorEq]) (by simp only [r3, ↓wA, wC, ↓reduceIte, Nat.reduceEqDiff, reduceCtorEq]) (by simp only [↓wA, wC, ↓reduceIte, Nat.reduceEqDiff, reduceCtorEq]) (by simp only [↓wA, wC, ↓reduceIte, Nat.reduceEqDiff, reduceCtorEq]) ?_
        intro g' w' r' G' p1
        simp +contextual only [p1, ↓wA, wC, Ex.ends, evR, oneOf, top, ↓reduceIte, Nat.reduceEqDiff, Nat.reduceLeDiff, Nat.reduceAdd, Nat.reduceSub, Nat.reduceMul, reduceCtorEq, Int.reduceEq, Int.reduceLT, Int.reduceLE, Int.reduceNeg]
        exact fin _ _ _ G'
end Go.Proofs.YtjbiefneffiogaaGreat

namespace Go.Proofs.YtjbiefneffiogaaGreat
open Go Am
def esC : List (Int × Int × Nat) → List ME
  | [] => []
  | (x, v, n) :: l => ⟨.int .i64 x, .int .i64 v, n⟩ :: esC l
def chas (k : Int) : List (Int × Int × Nat) → Bool
  | [] => false
  | (x, _, _) :: l => decide (k = x) || chas k l
def cget (k : Int) : List (Int × Int × Nat) → Int
  | [] => 0
  | (x, v, _) :: l => if k = x then v else cget k l
def cput (k v : Int) (c : Nat) : List (Int × Int × Nat) → List (Int × Int × Nat)
  | [] => [(k, v, c)]
  | (x, w, n) :: l => if k = x then (x, v, n) :: l else (x, w, n) :: cput k v c l
theorem cget_no {k : Int} : ∀ {l : List (Int × Int × Nat)}, chas k l = false → cget k l = 0
  | [], _ => rfl
  | (x, v, n) :: l, h => by
    simp only [chas, Bool.or_eq_false_iff, decide_eq_false_iff_not] at h
    simp only [cget, if_neg h.1, cget_no h.2]
theorem cget_put (k v : Int) (c : Nat) (k' : Int) : ∀ l : List (Int × Int × Nat), cget k' (cput k v c l) = if k' = k then v else cget k' l
  | [] => by simp only [cput, cget]
  | (x, w, n) :: l => by
    have ih := cget_put k v c k' l
    by_cases h : k = x
    · subst h
      rw [cput, if_pos rfl, cget, cget]
      split <;> simp_all
    · simp only [cput, if_neg h, cget, ih]
      by_cases h' : k' = x
      · have : ¬ k' = k := by omega
        simp only [if_pos h', if_neg this]
      · simp only [if_neg h']
theorem find_esC {k : Int} : ∀ (l : List (Int × Int × Nat)), findV KK.int.eq (.int .i64 k) (esC l) = some (if chas k l then some (.int .i64 (cget k l)) else none)
  | [] => rfl
  | (x, v, n) :: l => by
    have ih := find_esC (k := k) l
    by_cases h : k = x
    · subst h
      rw [show chas k ((k, v, n) :: l) = true from by simp [chas], if_pos rfl, show cget k ((k, v, n) :: l) = v from by simp [cget]]
      simp only [esC, findV, KK.eq, eqIntC, V.onInt, show eqKind .i64 .i64 = true from rfl, cond_true, eqB_dec]
      simp
    · rw [show chas k ((x, v, n) :: l) = chas k l from by simp [chas, h], show cget k ((x, v, n) :: l) = cget k l from by simp [cget, h], ← ih]
      simp only [esC, findV, KK.eq, eqIntC, V.onInt, show eqKind .i64 .i64 = true from rfl, cond_true, eqB_dec]
      rw [decide_eq_false h, cond_false]
theorem put_esC {k v : Int} {c : Nat} : ∀ (l : List (Int × Int × Nat)), putV KK.int.eq (.int .i64 k) (.int .i64 v) c (esC l) = some (esC (cput k v c l), !chas k l)
  | [] => rfl
  | (x, w, n) :: l => by
    have ih := put_esC (k := k) (v := v) (c := c) l
    simp only [esC, chas, cput, putV, KK.eq, eqIntC, V.onInt, show eqKind .i64 .i64 = true from rfl, cond_true, eqB_dec] at ih ⊢
    by_cases h : k = x
    · subst h; simp [esC]
    · rw [decide_eq_false h, if_neg h, cond_false, ih]
      simp [esC]
def CntIn (h : Heap) (b : Pa) (f : Int → Int) : Prop := ∃ L c, h.get b = .mp (esC L) c ∧ ∀ k, cget k L = f k
theorem CntIn.look {h : Heap} {b : Pa} {f : Int → Int} (H : CntIn h b f) (k : Int) : lookupV KK.int.eq (.int .i64 0) false h (.map b) (.int .i64 k) = some (.int .i64 (f k)) := by
  obtain ⟨L, c, h1, h2⟩ := H
  simp only [lookupV, mapSee, h1, Blk.onMap, find_esC, cond_false, ← h2 k]
  cases e : chas k L with
  | true => rfl
  | false => rw [cget_no e]; rfl
theorem CntIn.upd {h : Heap} {b : Pa} {f : Int → Int} (H : CntIn h b f) (k v : Int) : ∃ B, updV KK.int.eq h (.map b) (.int .i64 k) (.int .i64 v) = some (h.set b B) ∧ CntIn (h.set b B) b (fun n => if n = k then v else f n) := by
  obtain ⟨L, c, h1, h2⟩ := H
  refine ⟨.mp (esC (cput k v c L)) (bif !chas k L then c + 1 else c), by simp only [updV, h1, Blk.onMap, put_esC], _, _, by rw [get_set, if_pos rfl], fun n => ?_⟩
  rw [cget_put, h2]
theorem CntIn.mod {h h' : Heap} {b : Pa} {f g : Int → Int} (H : CntIn h b f) (e : h'.get b = h.get b) (hf : ∀ n, f n = g n) : CntIn h' b g := by
  obtain ⟨L, c, h1, h2⟩ := H
  exact ⟨L, c, e.trans h1, fun k => (h2 k).trans (hf k)⟩
theorem put_esT_in {k : Int} {c : Nat} : ∀ (l : List Int) (n : Nat), l.contains k = true → putV KK.int.eq (.int .i64 k) (.bool true) c (esT l n) = some (esT l n, false)
  | [], _, h => by simp at h
  | x :: l, n, h => by
    have ih := put_esT_in (k := k) (c := c) l (n + 1)
    simp only [esT, putV, KK.eq, eqIntC, V.onInt, show eqKind .i64 .i64 = true from rfl, cond_true, eqB_dec] at ih ⊢
    by_cases hx : k = x
    · subst hx; simp
    · rw [decide_eq_false hx, cond_false, ih (by simpa [hx] using h)]
def addS (l : List Int) (k : Int) : List Int := if l.contains k then l else l ++ [k]
theorem mem_addS {l : List Int} {k z : Int} : z ∈ addS l k ↔ z ∈ l ∨ z = k := by
  unfold addS
  split
  · rename_i h
    rw [List.contains_iff_mem] at h
    constructor
    · exact .inl
    · rintro (q | rfl)
      · exact q
      · exact h
  · simp
theorem addS_nodup {l : List Int} {k : Int} (h : l.Nodup) : (addS l k).Nodup := by
  unfold addS
  split
  · exact h
  · rename_i hk
    have hk' : k ∉ l := by simpa using hk
    rw [List.nodup_append]
    exact ⟨h, by simp, fun a ha b hb => by simp only [List.mem_singleton] at hb; subst hb; exact fun e => hk' (e ▸ ha)⟩
theorem upd_addS {h : Heap} {b : Pa} {l : List Int} (hg : h.get b = .mp (esT l 0) l.length) (k : Int) : updV KK.int.eq h (.map b) (.int .i64 k) (.bool true) = some (h.set b (.mp (esT (addS l k) 0) (addS l k).length)) := by
  cases hk : l.contains k with
  | false => rw [upd_esT hg hk, addS, if_neg (by rw [hk]; simp)]
  | true =>
    simp only [updV, hg, Blk.onMap, put_esT_in l 0 hk, cond_false]
    rw [addS, if_pos hk]
end Go.Proofs.YtjbiefneffiogaaGreat

namespace Go.Proofs.YtjbiefneffiogaaGreat
open Go Am
structure UbS (hb h : Heap) (pb po pg mb mo : Pa) (f : Int → Int) (l : List Int) : Prop where
  ext : Ext hb h
  hpb : h.get pb = .ofL [.map mb] 0 false
  hpo : h.get po = .ofL [.map mo] 0 false
  hpg : h.get pg = .ofL [.func 66 [.ptr pb 0, .ptr po 0, .ptr pg 0]] 0 false
  old : ∀ b, b = pb ∨ b = po ∨ b = pg ∨ b = mb ∨ b = mo → Old h b ∧ hb.next ≤ unPa b
  nb : ∀ b, b = pb ∨ b = po ∨ b = pg → b ≠ mb ∧ b ≠ mo
  mm : mb ≠ mo
  cnt : CntIn h mb f
  out : h.get mo = .mp (esT l 0) l.length
  nd : l.Nodup
def MM (mb mo : Pa) (b : Pa) : Prop := b = mb ∨ b = mo
theorem UbS.keep {hb h h' : Heap} {pb po pg mb mo : Pa} {f : Int → Int} {l : List Int} (S : UbS hb h pb po pg mb mo f l) (e : Ext h h') : UbS hb h' pb po pg mb mo f l :=
  ⟨S.ext.trans e, by rw [e.get _ (S.old _ (by simp)).1]; exact S.hpb, by rw [e.get _ (S.old _ (by simp)).1]; exact S.hpo, by rw [e.get _ (S.old _ (by simp)).1]; exact S.hpg,
    fun b hb => ⟨e.old (S.old b hb).1, (S.old b hb).2⟩, S.nb, S.mm, S.cnt.mod (e.get _ (S.old _ (by simp)).1) fun _ => rfl, by rw [e.get _ (S.old _ (by simp)).1]; exact S.out, S.nd⟩
theorem UbS.inc {hb h : Heap} {pb po pg mb mo : Pa} {f : Int → Int} {l : List Int} (S : UbS hb h pb po pg mb mo f l) (k v : Int) :
    ∃ h', updV KK.int.eq h (.map mb) (.int .i64 k) (.int .i64 v) = some h' ∧ UbS hb h' pb po pg mb mo (fun n => if n = k then v else f n) l ∧ h'.next = h.next ∧ ∀ b, b ≠ mb → h'.get b = h.get b := by
  obtain ⟨B, h1, h2⟩ := S.cnt.upd k v
  have hg : ∀ b, b ≠ mb → (h.set mb B).get b = h.get b := fun b hb => by rw [get_set, if_neg (fun e => hb e.symm)]
  refine ⟨_, h1, ⟨?_, ?_, ?_, ?_, fun b hb => ⟨by have := (S.old b hb).1; unfold Old at this ⊢; rw [next_set]; exact this, (S.old b hb).2⟩, S.nb, S.mm, h2, ?_, S.nd⟩, next_set _ _ _, hg⟩
  · exact S.ext.mod_new (M := fun q => q = mb) ((Mod.refl (fun q => q = mb) h).set (fun _ => rfl) _) (fun b hb => by rw [hb]; exact (S.old _ (by simp)).2)
  · rw [hg _ (S.nb _ (by simp)).1]; exact S.hpb
  · rw [hg _ (S.nb _ (by simp)).1]; exact S.hpo
  · rw [hg _ (S.nb _ (by simp)).1]; exact S.hpg
  · rw [hg _ (fun e => S.mm e.symm)]; exact S.out
theorem UbS.add {hb h : Heap} {pb po pg mb mo : Pa} {f : Int → Int} {l : List Int} (S : UbS hb h pb po pg mb mo f l) (k : Int) :
    ∃ h', updV KK.int.eq h (.map mo) (.int .i64 k) (.bool true) = some h' ∧ UbS hb h' pb po pg mb mo f (addS l k) ∧ h'.next = h.next ∧ ∀ b, b ≠ mo → h'.get b = h.get b := by
  have h1 := upd_addS S.out k
  have hg : ∀ b, b ≠ mo → (h.set mo (.mp (esT (addS l k) 0) (addS l k).length)).get b = h.get b := fun b hb => by rw [get_set, if_neg (fun e => hb e.symm)]
  refine ⟨_, h1, ⟨?_, ?_, ?_, ?_, fun b hb => ⟨by have := (S.old b hb).1; unfold Old at this ⊢; rw [next_set]; exact this, (S.old b hb).2⟩, S.nb, S.mm, ?_, by rw [get_set, if_pos rfl], addS_nodup S.nd⟩, next_set _ _ _, hg⟩
  · exact S.ext.mod_new (M := fun q => q = mo) ((Mod.refl (fun q => q = mo) h).set (fun _ => rfl) _) (fun b hb => by rw [hb]; exact (S.old _ (by simp)).2)
  · rw [hg _ (S.nb _ (by simp)).2]; exact S.hpb
  · rw [hg _ (S.nb _ (by simp)).2]; exact S.hpo
  · rw [hg _ (S.nb _ (by simp)).2]; exact S.hpg
  · exact S.cnt.mod (hg _ S.mm) fun _ => rfl
structure UbF (hb h : Heap) (pb po pg mb mo : Pa) (bx : List V) (h' : Heap) (f : Int → Int) (l : List Int) : Prop where
  s : UbS hb h' pb po pg mb mo f l
  m : Mod (MM mb mo) h h'
  n : h.next < h'.next
  b : h'.get (pa h.next) = .ofL bx 0 false
  ob : ∀ b, MM mb mo b → unPa b < h.next
theorem UbF.ne {hb h : Heap} {pb po pg mb mo : Pa} {bx : List V} {h' : Heap} {f : Int → Int} {l : List Int} (F : UbF hb h pb po pg mb mo bx h' f l) : pa h.next ≠ mb ∧ pa h.next ≠ mo := by
  constructor
  · intro e; have := F.ob mb (.inl rfl); rw [← e, unPa_pa] at this; omega
  · intro e; have := F.ob mo (.inr rfl); rw [← e, unPa_pa] at this; omega
theorem UbF.keep {hb h : Heap} {pb po pg mb mo : Pa} {bx : List V} {h' h'' : Heap} {f : Int → Int} {l : List Int} (F : UbF hb h pb po pg mb mo bx h' f l) (e : Ext h' h'') : UbF hb h pb po pg mb mo bx h'' f l :=
  ⟨F.s.keep e, F.m.trans (e.mod _), Nat.lt_of_lt_of_le F.n e.next, by rw [e.get _ (old_lt F.n)]; exact F.b, F.ob⟩
theorem UbF.inc {hb h : Heap} {pb po pg mb mo : Pa} {bx : List V} {h' : Heap} {f : Int → Int} {l : List Int} (F : UbF hb h pb po pg mb mo bx h' f l) (k v : Int) :
    ∃ h'', updV KK.int.eq h' (.map mb) (.int .i64 k) (.int .i64 v) = some h'' ∧ UbF hb h pb po pg mb mo bx h'' (fun n => if n = k then v else f n) l ∧ Mod (MM mb mo) h' h'' ∧ h''.next = h'.next ∧ (∀ b, b ≠ mb → h''.get b = h'.get b) := by
  obtain ⟨h'', h1, h2, h3, h4⟩ := F.s.inc k v
  have hm : Mod (MM mb mo) h' h'' := ⟨by omega, fun b hb hn => h4 b (fun e => hn (.inl e))⟩
  exact ⟨h'', h1, ⟨h2, F.m.trans hm, by have := F.n; omega, by rw [h4 _ F.ne.1]; exact F.b, F.ob⟩, hm, h3, h4⟩
theorem UbF.add {hb h : Heap} {pb po pg mb mo : Pa} {bx : List V} {h' : Heap} {f : Int → Int} {l : List Int} (F : UbF hb h pb po pg mb mo bx h' f l) (k : Int) :
    ∃ h'', updV KK.int.eq h' (.map mo) (.int .i64 k) (.bool true) = some h'' ∧ UbF hb h pb po pg mb mo bx h'' f (addS l k) ∧ Mod (MM mb mo) h' h'' ∧ h''.next = h'.next ∧ (∀ b, b ≠ mo → h''.get b = h'.get b) := by
  obtain ⟨h'', h1, h2, h3, h4⟩ := F.s.add k
  have hm : Mod (MM mb mo) h' h'' := ⟨by omega, fun b hb hn => h4 b (fun e => hn (.inr e))⟩
  exact ⟨h'', h1, ⟨h2, F.m.trans hm, by have := F.n; omega, by rw [h4 _ F.ne.2]; exact F.b, F.ob⟩, hm, h3, h4⟩
theorem UbF.call {hb h : Heap} {pb po pg mb mo : Pa} {bx : List V} {h' h'' : Heap} {f g : Int → Int} {l m : List Int} (F : UbF hb h pb po pg mb mo bx h' f l) (s : UbS hb h'' pb po pg mb mo g m) (hm : Mod (MM mb mo) h' h'') : UbF hb h pb po pg mb mo bx h'' g m :=
  ⟨s, F.m.trans hm, Nat.lt_of_lt_of_le F.n hm.next, by rw [hm.get _ (old_lt F.n) (fun e => e.elim F.ne.1 F.ne.2)]; exact F.b, F.ob⟩
theorem bump {f : Int → Int} {k : Int} {l : List Int} {m : List Int} (h : m = l ++ [k]) : (fun n => if n = k then (f k + (l.count k : Int)) + 1 else f n + (l.count n : Int)) = fun n => f n + (m.count n : Int) := by
  funext n
  subst h
  rw [List.count_append, List.count_singleton]
  by_cases e : n = k
  · subst e; simp; omega
  · have : ¬ (k == n) = true := by simpa using fun q => e q.symm
    rw [if_neg e, if_neg this]; simp
theorem drops {f : Int → Int} {k : Int} {l : List Int} {m : List Int} (h : m = k :: l) : (fun n => if n = k then (f k + (m.count k : Int)) - 1 else f n + (m.count n : Int)) = fun n => f n + (l.count n : Int) := by
  funext n
  subst h
  rw [List.count_cons, List.count_cons]
  by_cases e : n = k
  · subst e; simp; omega
  · have : ¬ (k == n) = true := by simpa using fun q => e q.symm
    rw [if_neg e, if_neg this]; simp
end Go.Proofs.YtjbiefneffiogaaGreat

namespace Go.Proofs.YtjbiefneffiogaaGreat
open Go Am
theorem ats_atx {h : Heap} {l : List At} {v : V} (H : SlV h 3 v l.length (atsV l)) {k : IntKind} {i : Nat} (hi : i < l.length) {h' : Heap} (e : Ext h h') :
    ∃ b off, iaV 3 v (.int k i) = some (.ptr b (off + i * 3)) ∧ ldnB 3 (h'.get b) (off + i * 3) = some (.agg [.int .i64 l[i].k, .int .i64 l[i].n, .str l[i].s]) := by
  obtain ⟨b, o, h1, h2, _⟩ := ats_at (H.ext e) (k := k) hi
  exact ⟨b, o, h1, h2⟩
set_option maxHeartbeats 4000000 in
set_option maxRecDepth 20000 in
theorem ub_ctr : ∀ (N : Nat) (c : Co), size c ≤ N → fit 1048576 c → okC c → ∀ (vs : List V) (hb : Heap), CoIn hb c vs → ∀ (h : Heap) (pb po pg mb mo : Pa) (f : Int → Int) (l b : List Int), UbS hb h pb po pg mb mo f l →
    (∀ n, 0 ≤ f n ∧ f n + (order c).length ≤ 1000000000) → (∀ n, f n = 0 ↔ n ∉ b) →
    Ctr Tryz.prog 66 [.agg vs, .ptr pb 0, .ptr po 0, .ptr pg 0] h fun x h' => ∃ l', UbS hb h' pb po pg mb mo f l' ∧ (∀ z, z ∈ l' ↔ z ∈ l ∨ z ∈ free c b) ∧ Mod (MM mb mo) h h'
  | 0, c, hs, _, _, _, _, _, _, _, _, _, _, _, _, _, _, _, _, _ => by have := size_pos c; omega
  | N + 1, c, hs, hf, hok, vs, hb, H, h, pb, po, pg, mb, mo, f, l, b, S, hfb, hfz => by
    obtain ⟨f1, f2, f3, f4, f5⟩ := hf.kids
    have hsl := size_l c
    obtain ⟨va, vt, vl, rfl, Ha, Ht, Hl⟩ := H.open
    have hok' : (c.k = 8 → 1 ≤ c.l.length) ∧ c.k ≠ 14 ∧ (lateB c.k = true → c.l.length = 2) ∧ oks c.l := by cases c; exact hok
    obtain ⟨k1, k2, k3, k4⟩ := hok'
    have hord : order c = ownNames c.k c.x c.l ++ orders (lateB c.k) c.x c.l 0 := by cases c; rfl
    have hfree : free c b = usedA b c.a ++ frees (lateB c.k) c.x c.l (b ++ ownNames c.k c.x c.l) 0 := by cases c; rfl
    have hordl := congrArg List.length hord
    rw [List.length_append] at hordl
    refine c66_ctr rfl (wpK_of ?_)
    unfold c66
    have e0 : Ext h (h.new (.ofL [.int .i64 c.k, .int .i64 c.x, .int .i64 c.n, .str c.s, va, vt, vl] 0 false)) := (Ext.refl h).new _
    have hL0 := (Ha.ext (S.ext.trans e0)).len
    have hob : ∀ q, MM mb mo q → unPa q < h.next := fun q hq => by
      rcases hq with rfl | rfl
      · exact (S.old _ (by simp)).1
      · exact (S.old _ (by simp)).1
    have F0 : UbF hb h pb po pg mb mo [.int .i64 c.k, .int .i64 c.x, .int .i64 c.n, .str c.s, va, vt, vl] (h.new (.ofL [.int .i64 c.k, .int .i64 c.x, .int .i64 c.n, .str c.s, va, vt, vl] 0 false)) f l :=
      ⟨S.keep e0, e0.mod _, by rw [next_new]; omega, get_new_self _, hob⟩
    simp +contextual only [hL0, ↓wA, wC, Ex.ends, evR, oneOf, top, ↓reduceIte, Nat.reduceEqDiff, Nat.reduceLeDiff, Nat.reduceAdd, Nat.reduceSub, Nat.reduceMul, reduceCtorEq, Int.reduceEq, Int.reduceLT, Int.reduceLE, Int.reduceNeg]
    generalize hH0 : h.new (.ofL [.int .i64 c.k, .int .i64 c.x, .int .i64 c.n, .str c.s, va, vt, vl] 0 false) = H0 at *
    refine loopK_intro (fun r h' => r 1 = .ptr pb 0 ∧ r 2 = .ptr po 0 ∧ r 3 = .ptr pg 0 ∧ r 4 = .ptr (pa h.next) 0 ∧ r 16 = va ∧ r 17 = .int .i64 c.a.length ∧ ∃ (i : Nat) (li : List Int), r 18 = .int .i64 i ∧ i ≤ c.a.length ∧ UbF hb h pb po pg mb mo [.int .i64 c.k, .int .i64 c.x, .int .i64 c.n, .str c.s, va, vt, vl] h' f li ∧
      ∀ z, (z ∈ li ∨ z ∈ usedA b (c.a.drop i)) ↔ (z ∈ l ∨ z ∈ usedA b c.a)) (fun r h' => c.a.length - (r 18).toN) ?_ ?_
    · exact ⟨by simp only [↓wA, wC, ↓reduceIte, Nat.reduceEqDiff, reduceCtorEq], by simp only [↓wA, wC, ↓reduceIte, Nat.reduceEqDiff, reduceCtorEq], by simp only [↓wA, wC, ↓reduceIte, Nat.reduceEqDiff, reduceCtorEq], by simp only [↓wA, wC, ↓reduceIte, Nat.reduceEqDiff, reduceCtorEq], by simp only [↓wA, wC, ↓reduceIte, Nat.reduceEqDiff, reduceCtorEq], by simp only [↓wA, wC, ↓reduceIte, Nat.reduceEqDiff, reduceCtorEq], 0, l, by simp only [↓wA, wC, ↓reduceIte, Nat.reduceEqDiff, reduceCtorEq] <;> rfl, by omega, F0, fun z => by rw [List.drop_zero]⟩
    · rintro r g ⟨r1, r2, r3, r4, r16, r17, i, li, r18, hi, F, hz⟩
      unfold c66l1
      by_cases hlt : i < c.a.length
      · have g0 : ((i : Int) < (c.a.length : Int)) = True := eq_true (by omega)
        obtain ⟨bb, o, ia, ldn⟩ := ats_atx Ha (k := .i64) hlt F.s.ext
        have wi := w_inc hlt (by omega)
        rw [List.drop_eq_getElem_cons hlt, usedA_cons] at hz
        generalize c.a[i] = q at *
        have e1 : Ext g ((g.new (.ofL [.int .i64 0, .int .i64 0, .str []] 0 false)).set (pa g.next) (.ofL [.int .i64 q.k, .int .i64 q.n, .str q.s] 0 false)) := ((Ext.refl g).new _).set (Nat.le_refl _) _
        have F1 := F.keep e1
        have lk := F1.s.cnt.look q.n
        obtain ⟨g2, u1, F2, u3, u4, u5⟩ := F1.add q.n
        have nlt : ∀ p, p = pb ∨ p = po ∨ p = pg ∨ p = mb ∨ p = mo → unPa p < g.next := fun p hp => (F.s.old p hp).1
        have nepb : (pa g.next = pb) = False := eq_false (fun e => by have := nlt pb (by simp); rw [← e, unPa_pa] at this; omega)
        have nepo : (pa g.next = po) = False := eq_false (fun e => by have := nlt po (by simp); rw [← e, unPa_pa] at this; omega)
        have nebx : (g.next = h.next) = False := eq_false (by have := F.n; omega)
        by_cases hq : q.k = 1
        · have eq := eq_true hq
          by_cases h0 : f q.n = 0
          · have ez := eq_true h0
            have hnb : b.contains q.n = false := by rw [← Bool.not_eq_true, List.contains_iff_mem]; exact (hfz _).1 h0
            rw [if_pos ⟨hq, hnb⟩] at hz
            simp +contextual only [r1, r2, r3, r4, r16, r17, r18, g0, ia, ldn, eq, ez, lk, u1, nepb, nepo, F.s.hpb, F.s.hpo, wi, ↓wA, wC, Ex.ends, evR, oneOf, top, ↓reduceIte, Nat.reduceEqDiff, Nat.reduceLeDiff, Nat.reduceAdd, Nat.reduceSub, Nat.reduceMul, reduceCtorEq, Int.reduceEq, Int.reduceLT, Int.reduceLE, Int.reduceNeg]
            exact ⟨⟨i + 1, addS li q.n, rfl, hlt, F2, fun z => by rw [← hz z, mem_addS]; simp only [List.mem_append, List.mem_singleton]; grind⟩, by omega⟩
          · have ez := eq_false h0
            have hnb : b.contains q.n = true := by
              rw [List.contains_iff_mem]
              exact Decidable.byContradiction fun e => h0 ((hfz _).2 e)
            rw [if_neg (fun p => by rw [hnb] at p; exact absurd p.2 (by simp)), List.nil_append] at hz
            simp +contextual only [r1, r2, r3, r4, r16, r17, r18, g0, ia, ldn, eq, ez, lk, u1, nepb, nepo, F.s.hpb, F.s.hpo, wi, ↓wA, wC, Ex.ends, evR, oneOf, top, ↓reduceIte, Nat.reduceEqDiff, Nat.reduceLeDiff, Nat.reduceAdd, Nat.reduceSub, Nat.reduceMul, reduceCtorEq, Int.reduceEq, Int.reduceLT, Int.reduceLE, Int.reduceNeg]
            exact ⟨⟨i + 1, li, rfl, hlt, F1, hz⟩, by omega⟩
        · have eq := eq_false hq
          rw [if_neg (fun p => hq p.1), List.nil_append] at hz
          simp +contextual only [r1, r2, r3, r4, r16, r17, r18, g0, ia, ldn, eq, lk, u1, nepb, nepo, F.s.hpb, F.s.hpo, wi, ↓wA, wC, Ex.ends, evR, oneOf, top, ↓reduceIte, Nat.reduceEqDiff, Nat.reduceLeDiff, Nat.reduceAdd, Nat.reduceSub, Nat.reduceMul, reduceCtorEq, Int.reduceEq, Int.reduceLT, Int.reduceLE, Int.reduceNeg]
          exact ⟨⟨i + 1, li, rfl, hlt, F1, hz⟩, by omega⟩
      · have g0 : ((i : Int) < (c.a.length : Int)) = False := eq_false (by omega)
        rw [List.drop_eq_nil_of_le (by omega), show usedA b [] = [] from rfl] at hz
        simp +contextual only [r1, r2, r3, r4, r16, r17, r18, g0, F.b, ↓wA, wC, Ex.ends, evR, oneOf, top, ↓reduceIte, Nat.reduceEqDiff, Nat.reduceLeDiff, Nat.reduceAdd, Nat.reduceSub, Nat.reduceMul, reduceCtorEq, Int.reduceEq, Int.reduceLT, Int.reduceLE, Int.reduceNeg]
        refine callK_intro (binds_ctr c _ _ (H.ext F.s.ext) hf k1 k2) ?_
        rintro x g1 ⟨hown, hx1⟩
        have F1 := F.keep hx1
        have hz1 : ∀ z, z ∈ li ↔ z ∈ l ∨ z ∈ usedA b c.a := fun z => by rw [← hz z]; simp
        have hxo : ∀ p, x.blk p → ¬ MM mb mo p := fun p q1 q2 => by
          have := hown.base q1
          have := hob p q2
          have := F.n
          omega
        have hown1 := hown.v
        have hLo := hown1.len
        have hol : (ownNames c.k c.x c.l).length ≤ (order c).length := by omega
        generalize hon : ownNames c.k c.x c.l = own at *
        have hol2 : own.length ≤ 1000000000 := by have := hfb 0; omega
        clear hown hL0 hz g0 hlt hi r18
        simp +contextual only [hLo, ↓wA, wC, Ex.ends, evR, oneOf, top, ↓reduceIte, Nat.reduceEqDiff, Nat.reduceLeDiff, Nat.reduceAdd, Nat.reduceSub, Nat.reduceMul, reduceCtorEq, Int.reduceEq, Int.reduceLT, Int.reduceLE, Int.reduceNeg]
        refine loopK_intro (fun r h' => r 1 = .ptr pb 0 ∧ r 2 = .ptr po 0 ∧ r 3 = .ptr pg 0 ∧ r 4 = .ptr (pa h.next) 0 ∧ r 7 = x ∧ r 38 = x ∧ r 39 = .int .i64 own.length ∧ SlV h' 1 x own.length (intsV own) ∧ ∃ (i : Nat), r 40 = .int .i64 i ∧ i ≤ own.length ∧ UbF hb h pb po pg mb mo [.int .i64 c.k, .int .i64 c.x, .int .i64 c.n, .str c.s, va, vt, vl] h' (fun n => f n + ((own.take i).count n : Int)) li) (fun r h' => own.length - (r 40).toN) ?_ ?_
        · exact ⟨by simp only [r1, ↓wA, wC, ↓reduceIte, Nat.reduceEqDiff, reduceCtorEq], by simp only [r2, ↓wA, wC, ↓reduceIte, Nat.reduceEqDiff, reduceCtorEq], by simp only [r3, ↓wA, wC, ↓reduceIte, Nat.reduceEqDiff, reduceCtorEq], by simp only [r4, ↓wA, wC, ↓reduceIte, Nat.reduceEqDiff, reduceCtorEq], by simp only [↓wA, wC, ↓reduceIte, Nat.reduceEqDiff, reduceCtorEq], by simp only [↓wA, wC, ↓reduceIte, Nat.reduceEqDiff, reduceCtorEq], by simp only [↓wA, wC, ↓reduceIte, Nat.reduceEqDiff, reduceCtorEq], hown1, 0, by simp only [↓wA, wC, ↓reduceIte, Nat.reduceEqDiff, reduceCtorEq] <;> rfl, by omega, by simpa using F1⟩
        · clear r1 r2 r3 r4 r16 r17 hown1
          rintro r g ⟨r1, r2, r3, r4, r7, r38, r39, hx, i, r40, hi, F⟩
          unfold c66l2
          by_cases hlt : i < own.length
          · have g0 : ((i : Int) < (own.length : Int)) = True := eq_true (by omega)
            obtain ⟨bb, o, ia, ld⟩ := ints_at hx (k := .i64) hlt
            have wi := w_inc hlt (by omega)
            have htk : own.take (i + 1) = own.take i ++ [own[i]] := by rw [List.take_add_one, List.getElem?_eq_getElem hlt]; rfl
            generalize own[i] = k at *
            have lk := F.s.cnt.look k
            have hcl : (own.take i).count k ≤ own.length := Nat.le_trans List.count_le_length (by rw [List.length_take]; omega)
            have hfk := hfb k
            have w1 : IntKind.i64.wrap (f k + ((own.take i).count k : Int) + 1) = f k + ((own.take i).count k : Int) + 1 := wrap_i64 (by omega) (by omega)
            obtain ⟨g2, u1, F2, u3, u4, u5⟩ := F.inc k (f k + ((own.take i).count k : Int) + 1)
            rw [bump htk] at F2
            simp +contextual only [r1, r2, r3, r4, r7, r38, r39, r40, g0, ia, ld, F.s.hpb, lk, w1, u1, wi, ↓wA, wC, Ex.ends, evR, oneOf, top, ↓reduceIte, Nat.reduceEqDiff, Nat.reduceLeDiff, Nat.reduceAdd, Nat.reduceSub, Nat.reduceMul, reduceCtorEq, Int.reduceEq, Int.reduceLT, Int.reduceLE, Int.reduceNeg]
            exact ⟨⟨hx.mod u3 hxo, i + 1, rfl, hlt, F2⟩, by omega⟩
          · have g0 : ((i : Int) < (own.length : Int)) = False := eq_false (by omega)
            rw [List.take_of_length_le (by omega)] at F
            have hLl := (Hl.ext F.s.ext).len
            simp +contextual only [r1, r2, r3, r4, r7, r38, r39, r40, g0, F.b, hLl, ↓wA, wC, Ex.ends, evR, oneOf, top, ↓reduceIte, Nat.reduceEqDiff, Nat.reduceLeDiff, Nat.reduceAdd, Nat.reduceSub, Nat.reduceMul, reduceCtorEq, Int.reduceEq, Int.reduceLT, Int.reduceLE, Int.reduceNeg]
            refine loopK_intro (fun r h' => r 1 = .ptr pb 0 ∧ r 2 = .ptr po 0 ∧ r 3 = .ptr pg 0 ∧ r 4 = .ptr (pa h.next) 0 ∧ r 7 = x ∧ r 50 = vl ∧ r 51 = .int .i64 c.l.length ∧ SlV h' 1 x own.length (intsV own) ∧ ∃ (i : Nat) (li : List Int), r 52 = .int .i64 i ∧ i ≤ c.l.length ∧ UbF hb h pb po pg mb mo [.int .i64 c.k, .int .i64 c.x, .int .i64 c.n, .str c.s, va, vt, vl] h' (fun n => f n + (own.count n : Int)) li ∧
              ∀ z, (z ∈ li ∨ z ∈ frees (lateB c.k) c.x (c.l.drop i) (b ++ own) i) ↔ (z ∈ l ∨ z ∈ free c b)) (fun r h' => c.l.length - (r 52).toN) ?_ ?_
            · exact ⟨by simp only [r1, ↓wA, wC, ↓reduceIte, Nat.reduceEqDiff, reduceCtorEq], by simp only [r2, ↓wA, wC, ↓reduceIte, Nat.reduceEqDiff, reduceCtorEq], by simp only [r3, ↓wA, wC, ↓reduceIte, Nat.reduceEqDiff, reduceCtorEq], by simp only [r4, ↓wA, wC, ↓reduceIte, Nat.reduceEqDiff, reduceCtorEq], by simp only [r7, ↓wA, wC, ↓reduceIte, Nat.reduceEqDiff, reduceCtorEq], by simp only [↓wA, wC, ↓reduceIte, Nat.reduceEqDiff, reduceCtorEq], by simp only [↓wA, wC, ↓reduceIte, Nat.reduceEqDiff, reduceCtorEq], hx, 0, li, by simp only [↓wA, wC, ↓reduceIte, Nat.reduceEqDiff, reduceCtorEq] <;> rfl, by omega, F, fun z => by rw [hfree, List.drop_zero, hz1 z, List.mem_append]; grind⟩
            · clear r1 r2 r3 r4 r7 r38 r39 r40 hx F hz1 hlt g0 hi F1 hLo hLl
              rintro r g ⟨r1, r2, r3, r4, r7, r50, r51, hx, i, li, r52, hi, F, hz⟩
              unfold c66l3
              by_cases hlt : i < c.l.length
              · have g0 : ((i : Int) < (c.l.length : Int)) = True := eq_true (by omega)
                obtain ⟨bb, o, u, ia, hu, lds⟩ := Hl.atx (k := .i64) hlt
                have ld := (lds g F.s.ext).1
                have wi := w_inc hlt (by omega)
                rw [List.drop_eq_getElem_cons hlt, frees] at hz
                have hfi : c.l[i]? = some c.l[i] := List.getElem?_eq_getElem hlt
                have hoa := orders_at (lateB c.k) c.x c.l 0 i _ hfi
                have hsz := size_idx hfi
                generalize hfd : c.l[i] = d at *
                obtain ⟨fa, ft, fl, rfl, Fa, Ft, Fl⟩ := hu.open
                have o1 := Fa.one.1
                have o2 := Ft.one.1
                have o3 := Fl.one.1
                have e1 : Ext g ((g.new (.ofL [.int .i64 0, .int .i64 0, .int .i64 0, .str [], .nilslice, .nilslice, .nilslice] 0 false)).set (pa g.next) (.ofL [.int .i64 d.k, .int .i64 d.x, .int .i64 d.n, .str d.s, fa, ft, fl] 0 false)) := ((Ext.refl g).new _).set (Nat.le_refl _) _
                have F1 := F.keep e1
                have hx1 := hx.ext e1
                have gn : ((g.new (.ofL [.int .i64 0, .int .i64 0, .int .i64 0, .str [], .nilslice, .nilslice, .nilslice] 0 false)).set (pa g.next) (.ofL [.int .i64 d.k, .int .i64 d.x, .int .i64 d.n, .str d.s, fa, ft, fl] 0 false)).next = g.next + 1 := by rw [next_set, next_new]
                have gb : ((g.new (.ofL [.int .i64 0, .int .i64 0, .int .i64 0, .str [], .nilslice, .nilslice, .nilslice] 0 false)).set (pa g.next) (.ofL [.int .i64 d.k, .int .i64 d.x, .int .i64 d.n, .str d.s, fa, ft, fl] 0 false)).get (pa g.next) = .ofL [.int .i64 d.k, .int .i64 d.x, .int .i64 d.n, .str d.s, fa, ft, fl] 0 false := by rw [get_set, if_pos rfl]
                have nlt : ∀ p, p = pb ∨ p = po ∨ p = pg ∨ p = mb ∨ p = mo → unPa p < g.next := fun p hp => (F.s.old p hp).1
                have nepb : (pa g.next = pb) = False := eq_false (fun e => by have := nlt pb (by simp); rw [← e, unPa_pa] at this; omega)
                have nepg : (pa g.next = pg) = False := eq_false (fun e => by have := nlt pg (by simp); rw [← e, unPa_pa] at this; omega)
                have nemb : pa g.next ≠ mb := fun e => by have := nlt mb (by simp); rw [← e, unPa_pa] at this; omega
                have nebx : (g.next = h.next) = False := eq_false (by have := F.n; omega)
                have nebx' : (h.next = g.next) = False := eq_false (by have := F.n; omega)
                have kid : ∀ (g : Heap) (fn : Int → Int) (li bn : List Int), UbF hb h pb po pg mb mo [.int .i64 c.k, .int .i64 c.x, .int .i64 c.n, .str c.s, va, vt, vl] g fn li → (∀ n, 0 ≤ fn n ∧ fn n + (order d).length ≤ 1000000000) → (∀ n, fn n = 0 ↔ n ∉ bn) →
                    Ctr Tryz.prog 66 [.agg [.int .i64 d.k, .int .i64 d.x, .int .i64 d.n, .str d.s, fa, ft, fl], .ptr pb 0, .ptr po 0, .ptr pg 0] g fun y g2 => ∃ l', UbF hb h pb po pg mb mo [.int .i64 c.k, .int .i64 c.x, .int .i64 c.n, .str c.s, va, vt, vl] g2 fn l' ∧ (∀ z, z ∈ l' ↔ z ∈ li ∨ z ∈ free d bn) ∧ Mod (MM mb mo) g g2 :=
                  fun g fn li bn F q1 q2 => (ub_ctr N d (by omega) (fits_at f5 hfi) (oks_at k4 hfi) _ hb hu g pb po pg mb mo fn li bn F.s q1 q2).mono fun y g2 ⟨l', s1, s2, s3⟩ => ⟨l', F.call s1 s3, s2, s3⟩
                have hcn : ∀ n, (own.count n : Int) ≤ own.length := fun n => by have := List.count_le_length (a := n) (l := own); omega
                have hz2 : ∀ n, f n + (own.count n : Int) = 0 ↔ n ∉ b ++ own := fun n => by
                  have h1 := hfz n
                  have h2 := (hfb n).1
                  have h3 : own.count n = 0 ↔ n ∉ own := List.count_eq_zero
                  rw [List.mem_append]
                  grind
                by_cases hlate : lateB c.k = true ∧ i = 1
                · obtain ⟨hla, rfl⟩ := hlate
                  have hc1 : (if (lateB c.k && (1 : Nat) == 1) = true then b ++ own ++ [c.x] else b ++ own) = b ++ own ++ [c.x] := by
                    rw [if_pos]
                    rw [hla]; rfl
                  rw [hc1] at hz
                  rw [hla] at hoa
                  have hoa1 : (order d).length + 1 ≤ (orders (lateB c.k) c.x c.l 0).length := by rw [hla]; exact hoa
                  have hcond : (decide (c.k = 2) || decide (c.k = 11)) = true := by simpa [lateB] using hla
                  have hi1 : (((1 : Nat) : Int) = 1) = True := eq_true rfl
                  have lk := F1.s.cnt.look c.x
                  have hfk := hfb c.x
                  have hck := hcn c.x
                  have w1 : IntKind.i64.wrap (f c.x + (own.count c.x : Int) + 1) = f c.x + (own.count c.x : Int) + 1 := wrap_i64 (by omega) (by omega)
                  obtain ⟨g2, u1, F2, u3, u4, u5⟩ := F1.inc c.x (f c.x + (own.count c.x : Int) + 1)
                  have hx2 := hx1.mod u3 hxo
                  have gb2 := (u5 _ nemb).trans gb
                  simp +contextual only [r1, r2, r3, r4, r7, r50, r51, r52, g0, ia, ld, o1, o2, o3, nebx, nebx', nepb, nepg, hi1, F.s.hpb, F.b, hcond, lk, w1, u1, F2.b, F2.s.hpg, gb2, Bool.and_self, ↓wA, wC, Ex.ends, evR, oneOf, top, ↓reduceIte, Nat.reduceEqDiff, Nat.reduceLeDiff, Nat.reduceAdd, Nat.reduceSub, Nat.reduceMul, reduceCtorEq, Int.reduceEq, Int.reduceLT, Int.reduceLE, Int.reduceNeg]
                  refine callK_intro (kid g2 _ li (b ++ own ++ [c.x]) F2 (fun n => ?_) (fun n => ?_)) ?_
                  · have := hfb n
                    have := hcn n
                    split <;> omega
                  · have h1 := hz2 n
                    rw [List.mem_append, List.mem_singleton]
                    by_cases e : n = c.x
                    · subst e
                      rw [if_pos rfl]
                      simp
                      omega
                    · rw [if_neg e, h1]
                      simp [e]
                  rintro y g3 ⟨l', F3, s2, s3⟩
                  have hx3 := hx2.mod s3 hxo
                  have lk3 := F3.s.cnt.look c.x
                  rw [if_pos rfl] at lk3
                  have w2 : IntKind.i64.wrap (f c.x + (own.count c.x : Int) + 1 - 1) = f c.x + (own.count c.x : Int) := by rw [wrap_i64 (by omega) (by omega)]; omega
                  obtain ⟨g4, a1, F4, a3, a4, a5⟩ := F3.inc c.x (f c.x + (own.count c.x : Int))
                  have hf4 : (fun n => if n = c.x then f c.x + (own.count c.x : Int) else if n = c.x then f c.x + (own.count c.x : Int) + 1 else f n + (own.count n : Int)) = fun n => f n + (own.count n : Int) := by
                    funext n
                    by_cases e : n = c.x
                    · subst e; rw [if_pos rfl]
                    · rw [if_neg e, if_neg e]
                  rw [hf4] at F4
                  simp +contextual only [r1, r2, r3, r4, r7, r50, r51, r52, F3.s.hpb, F3.b, lk3, w2, a1, wi, ↓wA, wC, Ex.ends, evR, oneOf, top, ↓reduceIte, Nat.reduceEqDiff, Nat.reduceLeDiff, Nat.reduceAdd, Nat.reduceSub, Nat.reduceMul, reduceCtorEq, Int.reduceEq, Int.reduceLT, Int.reduceLE, Int.reduceNeg]
                  exact ⟨⟨hx3.mod a3 hxo, 2, l', rfl, hlt, F4, fun z => by rw [← hz z, s2 z, List.mem_append]; grind⟩, by omega⟩
                · have hc1 : (if (lateB c.k && i == 1) = true then b ++ own ++ [c.x] else b ++ own) = b ++ own := by
                    rw [if_neg]
                    simp only [Bool.and_eq_true, beq_iff_eq]
                    exact hlate
                  rw [hc1] at hz
                  have hcond : (decide ((i : Int) = 1) && (decide (c.k = 2) || decide (c.k = 11))) = false := by
                    rw [← Bool.not_eq_true, Bool.and_eq_true, decide_eq_true_eq]
                    exact fun ⟨q1, q2⟩ => hlate ⟨q2, by omega⟩
                  by_cases hi1 : (i : Int) = 1
                  · have ei := eq_true hi1
                    have hcond2 : (decide (c.k = 2) || decide (c.k = 11)) = false := by
                      rw [decide_eq_true hi1, Bool.true_and] at hcond
                      exact hcond
                    simp +contextual only [r1, r2, r3, r4, r7, r50, r51, r52, g0, ia, ld, o1, o2, o3, nebx, nebx', nepb, nepg, ei, hcond2, F.s.hpb, F.s.hpg, F.b, ↓wA, wC, Ex.ends, evR, oneOf, top, ↓reduceIte, Nat.reduceEqDiff, Nat.reduceLeDiff, Nat.reduceAdd, Nat.reduceSub, Nat.reduceMul, reduceCtorEq, Int.reduceEq, Int.reduceLT, Int.reduceLE, Int.reduceNeg]
                    refine callK_intro (kid _ _ li (b ++ own) F1 (fun n => ?_) hz2) ?_
                    · have := hfb n
                      have := hcn n
                      omega
                    rintro y g3 ⟨l', F3, s2, s3⟩
                    simp +contextual only [r1, r2, r3, r4, r7, r50, r51, r52, wi, ↓wA, wC, Ex.ends, evR, oneOf, top, ↓reduceIte, Nat.reduceEqDiff, Nat.reduceLeDiff, Nat.reduceAdd, Nat.reduceSub, Nat.reduceMul, reduceCtorEq, Int.reduceEq, Int.reduceLT, Int.reduceLE, Int.reduceNeg]
                    exact ⟨⟨hx1.mod s3 hxo, i + 1, l', rfl, hlt, F3, fun z => by rw [← hz z, s2 z, List.mem_append]; grind⟩, by omega⟩
                  · have ei := eq_false hi1
                    simp +contextual only [r1, r2, r3, r4, r7, r50, r51, r52, g0, ia, ld, o1, o2, o3, nebx, nebx', nepb, nepg, ei, F.s.hpb, F.s.hpg, F.b, ↓wA, wC, Ex.ends, evR, oneOf, top, ↓reduceIte, Nat.reduceEqDiff, Nat.reduceLeDiff, Nat.reduceAdd, Nat.reduceSub, Nat.reduceMul, reduceCtorEq, Int.reduceEq, Int.reduceLT, Int.reduceLE, Int.reduceNeg]
                    refine callK_intro (kid _ _ li (b ++ own) F1 (fun n => ?_) hz2) ?_
                    · have := hfb n
                      have := hcn n
                      omega
                    rintro y g3 ⟨l', F3, s2, s3⟩
                    simp +contextual only [r1, r2, r3, r4, r7, r50, r51, r52, wi, ↓wA, wC, Ex.ends, evR, oneOf, top, ↓reduceIte, Nat.reduceEqDiff, Nat.reduceLeDiff, Nat.reduceAdd, Nat.reduceSub, Nat.reduceMul, reduceCtorEq, Int.reduceEq, Int.reduceLT, Int.reduceLE, Int.reduceNeg]
                    exact ⟨⟨hx1.mod s3 hxo, i + 1, l', rfl, hlt, F3, fun z => by rw [← hz z, s2 z, List.mem_append]; grind⟩, by omega⟩
              · have g0 : ((i : Int) < (c.l.length : Int)) = False := eq_false (by omega)
                rw [List.drop_eq_nil_of_le (by omega), frees] at hz
                have hz1 : ∀ z, z ∈ li ↔ z ∈ l ∨ z ∈ free c b := fun z => by rw [← hz z]; simp
                have hLo := hx.len
                simp +contextual only [r1, r2, r3, r4, r7, r50, r51, r52, g0, hLo, ↓wA, wC, Ex.ends, evR, oneOf, top, ↓reduceIte, Nat.reduceEqDiff, Nat.reduceLeDiff, Nat.reduceAdd, Nat.reduceSub, Nat.reduceMul, reduceCtorEq, Int.reduceEq, Int.reduceLT, Int.reduceLE, Int.reduceNeg]
                refine loopK_intro (fun r h' => r 1 = .ptr pb 0 ∧ r 85 = x ∧ r 86 = .int .i64 own.length ∧ SlV h' 1 x own.length (intsV own) ∧ ∃ (i : Nat), r 87 = .int .i64 i ∧ i ≤ own.length ∧ UbF hb h pb po pg mb mo [.int .i64 c.k, .int .i64 c.x, .int .i64 c.n, .str c.s, va, vt, vl] h' (fun n => f n + ((own.drop i).count n : Int)) li) (fun r h' => own.length - (r 87).toN) ?_ ?_
                · exact ⟨by simp only [r1, ↓wA, wC, ↓reduceIte, Nat.reduceEqDiff, reduceCtorEq], by simp only [↓wA, wC, ↓reduceIte, Nat.reduceEqDiff, reduceCtorEq], by simp only [↓wA, wC, ↓reduceIte, Nat.reduceEqDiff, reduceCtorEq], hx, 0, by simp only [↓wA, wC, ↓reduceIte, Nat.reduceEqDiff, reduceCtorEq] <;> rfl, by omega, by simpa using F⟩
                · clear r1 r2 r3 r4 r7 r50 r51 r52 hx F hi hlt g0
                  rintro r g ⟨r1, r85, r86, hx, i, r87, hi, F⟩
                  unfold c66l4
                  by_cases hlt : i < own.length
                  · have g0 : ((i : Int) < (own.length : Int)) = True := eq_true (by omega)
                    obtain ⟨bb, o, ia, ld⟩ := ints_at hx (k := .i64) hlt
                    have wi := w_inc hlt (by omega)
                    have htk := List.drop_eq_getElem_cons hlt
                    generalize own[i] = k at *
                    have lk := F.s.cnt.look k
                    have hcl : (own.drop i).count k ≤ own.length := Nat.le_trans List.count_le_length (by rw [List.length_drop]; omega)
                    have hck : 1 ≤ (own.drop i).count k := by rw [htk, List.count_cons_self]; omega
                    have hfk := hfb k
                    have w1 : IntKind.i64.wrap (f k + ((own.drop i).count k : Int) - 1) = f k + ((own.drop i).count k : Int) - 1 := wrap_i64 (by omega) (by omega)
                    obtain ⟨g2, u1, F2, u3, u4, u5⟩ := F.inc k (f k + ((own.drop i).count k : Int) - 1)
                    rw [drops htk] at F2
                    simp +contextual only [r1, r85, r86, r87, g0, ia, ld, F.s.hpb, lk, w1, u1, wi, ↓wA, wC, Ex.ends, evR, oneOf, top, ↓reduceIte, Nat.reduceEqDiff, Nat.reduceLeDiff, Nat.reduceAdd, Nat.reduceSub, Nat.reduceMul, reduceCtorEq, Int.reduceEq, Int.reduceLT, Int.reduceLE, Int.reduceNeg]
                    exact ⟨⟨hx.mod u3 hxo, i + 1, rfl, hlt, F2⟩, by omega⟩
                  · have g0 : ((i : Int) < (own.length : Int)) = False := eq_false (by omega)
                    rw [List.drop_eq_nil_of_le (by omega)] at F
                    have hff : (fun n => f n + (([] : List Int).count n : Int)) = f := by funext n; simp
                    rw [hff] at F
                    simp +contextual only [r1, r85, r86, r87, g0, ↓wA, wC, Ex.ends, evR, oneOf, top, ↓reduceIte, Nat.reduceEqDiff, Nat.reduceLeDiff, Nat.reduceAdd, Nat.reduceSub, Nat.reduceMul, reduceCtorEq, Int.reduceEq, Int.reduceLT, Int.reduceLE, Int.reduceNeg]
                    exact ⟨li, F.s, hz1, F.m⟩
end Go.Proofs.YtjbiefneffiogaaGreat

namespace Go.Proofs.YtjbiefneffiogaaGreat
open Go Am
mutual
def vars : Co → Prop
  | .mk k x n s a t l => (∀ q ∈ a, q.k = 1 → varB q.n = true) ∧ varss l
def varss : List Co → Prop
  | [] => True
  | c :: cs => vars c ∧ varss cs
end
theorem vars_of_all {a : List At} (h : a.all atB = true) : ∀ q ∈ a, q.k = 1 → varB q.n = true := by
  intro q hq hk
  have := List.all_eq_true.1 h q hq
  rw [atB, if_pos hk, Bool.and_eq_true] at this
  exact this.1
theorem ownP_atoms {b : Bool} {c : Co} (h : ownP b c = true) : c.a.all atB = true := by
  unfold ownP at h
  split at h
  · cases h
  · simp only [Bool.and_eq_true] at h
    exact h.2
theorem ownP_one {b : Bool} {c : Co} (h7 : c.k = 7) (h : ownP b c = true) : c.l.length = 1 := by
  unfold ownP at h
  have : rulesM c.k = some ⟨true, false, false, false, 0, 0, 1, 1⟩ := by rw [h7]; rfl
  rw [this] at h
  simp only [Bool.and_eq_true, withinI, decide_eq_true_eq] at h
  have := h.1.1.2.1.2
  omega
mutual
theorem vars_of_may : ∀ (c : Co), may ownP c = true → vars c
  | .mk k x n s a t l, h => by
    simp only [may] at h
    by_cases hk : k = 8
    · rw [if_pos hk] at h
      simp only [Bool.and_eq_true, decide_eq_true_eq, bareB] at h
      refine ⟨fun q hq => ?_, varss_of_rec l h.2⟩
      have : a = [] := h.1.1.2
      rw [this] at hq; cases hq
    · rw [if_neg hk] at h
      simp only [Bool.and_eq_true] at h
      exact ⟨vars_of_all (ownP_atoms h.1), varss_of_mays l h.2⟩
theorem varss_of_mays : ∀ (l : List Co), mays ownP l = true → varss l
  | [], _ => trivial
  | c :: cs, h => by
    simp only [mays, Bool.and_eq_true] at h
    exact ⟨vars_of_may c h.1, varss_of_mays cs h.2⟩
theorem varss_of_rec : ∀ (l : List Co), mayRec ownP l = true → varss l
  | [], _ => trivial
  | [c], h => by
    simp only [mayRec] at h
    exact ⟨vars_of_may c h, trivial⟩
  | c :: d :: cs, h => by
    have h' : ((decide (c.k = 7) && ownP true c) && mayKid ownP c && mayRec ownP (d :: cs)) = true := by simpa only [mayRec] using h
    simp only [Bool.and_eq_true, decide_eq_true_eq] at h'
    exact ⟨vars_of_kid c h'.1.1.1 h'.1.1.2 h'.1.2, varss_of_rec (d :: cs) h'.2⟩
theorem vars_of_kid : ∀ (c : Co), c.k = 7 → ownP true c = true → mayKid ownP c = true → vars c
  | .mk k x n s a t l, h7, ho, h => by
    exact ⟨vars_of_all (ownP_atoms ho), varss_of_head l (ownP_one h7 ho) (by simpa only [mayKid] using h)⟩
theorem varss_of_head : ∀ (l : List Co), l.length = 1 → mayHead ownP l = true → varss l
  | [c], _, h => ⟨vars_of_may c (by simpa only [mayHead] using h), trivial⟩
  | [], hl, _ => by simp at hl
  | _ :: _ :: _, hl, _ => by simp at hl
end
theorem mem_usedA {b : List Int} {a : List At} {z : Int} (h : z ∈ usedA b a) : ∃ q ∈ a, q.k = 1 ∧ q.n = z := by
  unfold usedA at h
  obtain ⟨q, h1, h2⟩ := List.mem_map.1 h
  obtain ⟨h3, h4⟩ := List.mem_filter.1 h1
  simp only [Bool.and_eq_true, decide_eq_true_eq] at h4
  exact ⟨q, h3, h4.1, h2⟩
mutual
theorem mem_free : ∀ (c : Co) (b : List Int) (z : Int), vars c → z ∈ free c b → varB z = true
  | .mk k x n s a t l, b, z, hv, h => by
    simp only [free, List.mem_append] at h
    rcases h with h | h
    · obtain ⟨q, q1, q2, rfl⟩ := mem_usedA h
      exact hv.1 q q1 q2
    · exact mem_frees l _ _ _ _ z hv.2 h
theorem mem_frees : ∀ (l : List Co) (late : Bool) (x : Int) (b : List Int) (i : Nat) (z : Int), varss l → z ∈ frees late x l b i → varB z = true
  | [], _, _, _, _, _, _, h => by simp [frees] at h
  | c :: cs, late, x, b, i, z, hv, h => by
    simp only [frees, List.mem_append] at h
    rcases h with h | h
    · exact mem_free c _ z hv.1 h
    · exact mem_frees cs late x b (i + 1) z hv.2 h
end
def atW : List At → Nat
  | [] => 0
  | q :: a => q.s.length / 100 + atW a
mutual
def wt : Co → Nat
  | .mk k x n s a t l => 1 + a.length + t.length + s.length / 100 + atW a + wts l
def wts : List Co → Nat
  | [] => 0
  | c :: cs => wt c + wts cs
end
mutual
theorem size_wt : ∀ c : Co, size c ≤ wt c
  | .mk k x n s a t l => by
    have := sizes_wts l
    simp only [size, wt]
    omega
theorem sizes_wts : ∀ l : List Co, sizes l ≤ wts l
  | [] => Nat.le_refl _
  | c :: cs => by
    have := size_wt c
    have := sizes_wts cs
    simp only [sizes, wts]
    omega
end
theorem usedA_len (b : List Int) (a : List At) : (usedA b a).length ≤ a.length := by
  unfold usedA
  rw [List.length_map]
  exact List.length_filter_le _ _
mutual
theorem free_len : ∀ (c : Co) (b : List Int), (free c b).length ≤ wt c
  | .mk k x n s a t l, b => by
    have h1 := usedA_len b a
    have h2 := frees_len l (lateB k) x (b ++ ownNames k x l) 0
    simp only [free, wt, List.length_append]
    omega
theorem frees_len : ∀ (l : List Co) (late : Bool) (x : Int) (b : List Int) (i : Nat), (frees late x l b i).length ≤ wts l
  | [], _, _, _, _ => by simp [frees, wts]
  | c :: cs, late, x, b, i => by
    have h1 := free_len c (if late && i == 1 then b ++ [x] else b)
    have h2 := frees_len cs late x b (i + 1)
    simp only [frees, wts, List.length_append]
    omega
end
theorem wts_len : ∀ l : List Co, l.length ≤ wts l := fun l => by have := sizes_len l; have := sizes_wts l; omega
theorem atW_mem : ∀ {a : List At} {q : At}, q ∈ a → q.s.length / 100 ≤ atW a
  | [], _, h => by cases h
  | p :: a, q, h => by
    simp only [atW]
    rcases List.mem_cons.1 h with rfl | h
    · omega
    · have := atW_mem h; omega
mutual
theorem fit_of_wt : ∀ (c : Co), wt c ≤ 400 → fit 1048576 c
  | .mk k x n s a t l, h => by
    simp only [wt] at h
    have := wts_len l
    refine ⟨by omega, by omega, by omega, by omega, fun q hq => ?_, fits_of_wts l (by omega)⟩
    have := atW_mem hq
    omega
theorem fits_of_wts : ∀ (l : List Co), wts l ≤ 400 → fits 1048576 l
  | [], _ => trivial
  | c :: cs, h => by
    simp only [wts] at h
    exact ⟨fit_of_wt c (by omega), fits_of_wts cs (by omega)⟩
end
end Go.Proofs.YtjbiefneffiogaaGreat

namespace Go.Proofs.YtjbiefneffiogaaGreat
open Go Am
def c68 : RC :=
 RC.seq (RC.reg [⟨(some 1), .box (.t 0), none, [0]⟩,
 ⟨(some 2), .mv (.c .nilfunc), none, []⟩])
 (RC.seq (RC.reg [⟨(some 3), .fn 129 [(.t 1)], none, [1]⟩,
 ⟨(some 2), .mv (.t 3), none, [3]⟩])
 (RC.ret))
theorem c68_ok : resK Tryz.prog Tryz.f68.ntmps (Tryz.f68.body.getD .skip) = c68 := by kernel_rfl
theorem c68_res : resR Tryz.prog Tryz.f68.ntmps Tryz.f68.results.toList = [.t 2] := by kernel_rfl
theorem c68_ctr {args : List V} {h : Heap} {K : V → Heap → Prop} (hl : Nat.ble args.length 4 = true) (H : wpC Tryz.prog c68 (RF.ofL args) h fun e r h' => e.ends ∧ ∃ vs, evR r h' [.t 2] = some vs ∧ K (oneOf vs) h') : Ctr Tryz.prog 68 args h K :=
 ctr_of_wp follows namesOk Tryz.func68 (c := Tryz.f68.body.getD .skip) (by kernel_rfl) (by kernel_rfl) hl c68_ok c68_res H
end Go.Proofs.YtjbiefneffiogaaGreat

namespace Go.Proofs.YtjbiefneffiogaaGreat
open Go Am
theorem keysZ_esT : ∀ (l : List Int) (n : Nat), keysZ (esT l n) = some l
  | [], _ => rfl
  | x :: l, n => by simp only [esT, keysZ, keysZ_esT l (n + 1)]
theorem memZ_iff {x : Int} : ∀ l : List Int, memZ x l = l.contains x
  | [] => rfl
  | y :: l => by
    rw [memZ, memZ_iff l, List.contains_cons, eqB_dec]
    congr 1
theorem nodupZ_of {l : List Int} (h : l.Nodup) : nodupZ l = true := by
  induction l with
  | nil => rfl
  | cons x l ih =>
    obtain ⟨h1, h2⟩ := List.nodup_cons.1 h
    rw [nodupZ, ih h2, memZ_iff]
    simp [h1]
theorem bornsB_esT : ∀ (l : List Int) (n lo c : Nat), lo ≤ n → n + l.length ≤ c → bornsB c lo (esT l n) = true
  | [], _, _, _, _, _ => rfl
  | x :: l, n, lo, c, h1, h2 => by
    simp only [List.length_cons] at h2
    rw [esT, bornsB, bornsB_esT l (n + 1) (n + 1) c (Nat.le_refl _) (by omega)]
    have a1 : Nat.ble lo n = true := by rw [Nat.ble_eq]; exact h1
    have a2 : Nat.blt n c = true := by rw [Nat.blt_eq]; omega
    simp only [a1, a2]; rfl
theorem wf_var {z : Int} (h : varB z = true) : (Lit.int .i64 z).wf = true := by
  simp only [varB, Bool.and_eq_true, decide_eq_true_eq] at h
  simp only [Lit.wf, Bool.and_eq_true, decide_eq_true_eq]
  have a1 : IntKind.i64.min = -9223372036854775808 := by decide
  have a2 : IntKind.i64.max = 9223372036854775807 := by decide
  rw [a1, a2]
  omega
theorem wfZ_of {l : List Int} (h : ∀ z ∈ l, varB z = true) : wfZ l = true := by
  induction l with
  | nil => rfl
  | cons x l ih =>
    rw [wfZ, wf_var (h x (by simp)), ih fun z hz => h z (by simp [hz])]
    rfl
theorem esT_len : ∀ (l : List Int) (n : Nat), (esT l n).length = l.length
  | [], _ => rfl
  | x :: l, n => by simp only [esT, List.length_cons, esT_len l (n + 1)]
theorem sorted_ctr {h : Heap} {bb b : Pa} {l : List Int} (h1 : h.get bb = .ofL [.map b] 0 false) (h2 : h.get b = .mp (esT l 0) l.length) (hn : l.Nodup) (hv : ∀ z ∈ l, varB z = true) (hl : l.length ≤ 1000000) :
    Ctr Tryz.prog 67 [.func 129 [.ptr bb 0]] h fun x h' => SlO h.next h' 1 x l.length (intsV (sortZ l)) ∧ Ext h h' := by
  have hp : (sortZ l).length = l.length := (sortZ_perm l).length_eq
  have key : ∃ v h', (sortedKeysC 129).run [.func 129 [.ptr bb 0]] h = .val v h' ∧ SlO h.next h' 1 v l.length (intsV (sortZ l)) ∧ Ext h h' := by
    have e : (sortedKeysC 129).run [.func 129 [.ptr bb 0]] h = sortedOf 129 bb h := rfl
    rw [e]
    unfold sortedOf
    rw [h1]
    change ∃ v h', (match h.get b with
      | .mp es clock => (match keysZ es with
        | some ks => bif nodupZ ks && bornsB clock 0 es && wfZ ks && Nat.ble es.length 1000000 then (match sortZ ks with
            | [] => OR.val .nilslice h
            | x :: l => (match newGrow h (intsV (x :: l)) 1 false with
              | some h' => OR.val (.gslice (pa h.next) 0 (x :: l).length 0) h'
              | none => OR.fail)) else OR.fail
        | none => OR.fail)
      | _ => OR.fail) = OR.val v h' ∧ _
    rw [h2]
    simp only [keysZ_esT, nodupZ_of hn, bornsB_esT l 0 0 l.length (Nat.le_refl _) (by omega), wfZ_of hv, esT_len, show Nat.ble l.length 1000000 = true from by rw [Nat.ble_eq]; exact hl, Bool.and_self, cond_true]
    cases hs : sortZ l with
    | nil =>
      rw [hs] at hp
      exact ⟨_, _, rfl, ⟨by simp [intsV, ← hp], hp.symm⟩, Ext.refl _⟩
    | cons x m =>
      rw [hs] at hp
      have hlen : (intsV (x :: m)).length = l.length := by rw [intsV_len, hp]
      have e2 : newGrow h (intsV (x :: m)) 1 false = some (h.new (.ofL (intsV (x :: m)) 1 false)) := by
        unfold newGrow
        rw [show (Nat.ble (intsV (x :: m)).length top && Nat.ble 1 1) = true from by rw [Bool.and_eq_true, Nat.ble_eq, Nat.ble_eq, hlen]; unfold top; omega]
        rfl
      simp only [e2, hp]
      refine ⟨_, _, rfl, ?_, (Ext.refl h).new _⟩
      exact SlO.grown (by rw [hlen]; omega) (Nat.le_refl _)
  obtain ⟨v, h', he, q1, q2⟩ := key
  exact ⟨v, h', .inl ⟨⟨_, Tryz.func67, by kernel_rfl⟩, fun w0 E w xs hx s => sortedKeys_ok Tryz.underlying3 sortedKeys he w0 E w xs hx s⟩, q1, q2⟩
theorem keys_ctr (b : Pa) (h : Heap) : Ctr Tryz.prog 68 [.map b] h fun x h' => x = .func 129 [.ptr (pa h.next) 0] ∧ h'.get (pa h.next) = .ofL [.map b] 0 false ∧ Ext h h' := by
  refine c68_ctr rfl (wpK_of ?_)
  unfold c68
  simp +contextual only [↓wA, wC, Ex.ends, evR, oneOf, top, ↓reduceIte, Nat.reduceEqDiff, Nat.reduceLeDiff, Nat.reduceAdd, Nat.reduceSub, Nat.reduceMul, reduceCtorEq, Int.reduceEq, Int.reduceLT, Int.reduceLE, Int.reduceNeg]
  exact (Ext.refl h).new _
theorem nodup_len : ∀ {l m : List Int}, l.Nodup → (∀ z ∈ l, z ∈ m) → l.length ≤ m.length
  | [], _, _, _ => by simp
  | x :: l, m, hn, h => by
    obtain ⟨h1, h2⟩ := List.nodup_cons.1 hn
    have hx := h x (by simp)
    have := nodup_len (l := l) (m := m.erase x) h2 fun z hz => (List.mem_erase_of_ne (show z ≠ x from fun e => h1 (by rw [← e]; exact hz))).2 (h z (by simp [hz]))
    rw [List.length_erase_of_mem hx] at this
    have := List.length_pos_of_mem hx
    simp only [List.length_cons]
    omega
theorem Unbound_ctr (c : Co) (vs : List V) (h : Heap) (H : CoIn h c vs) (hw : wt c ≤ 400) (hm : may ownP c = true) (hok : okC c) :
    Ctr Tryz.prog 46 [.agg vs] h fun x h' => SlO h.next h' 1 x (rising (free c [])).length (intsV (rising (free c []))) ∧ Ext h h' := by
  obtain ⟨va, vt, vl, rfl, Ha, Ht, Hl⟩ := H.open
  have hf := fit_of_wt c hw
  refine c46_ctr rfl (wpK_of ?_)
  unfold c46
  simp +contextual only [show ∀ g : Heap, makeMapV none g = .val (.map (pa g.next)) (g.new (.mp [] 0)) from fun g => rfl, ↓wA, wC, Ex.ends, evR, oneOf, top, ↓reduceIte, Nat.reduceEqDiff, Nat.reduceLeDiff, Nat.reduceAdd, Nat.reduceSub, Nat.reduceMul, reduceCtorEq, Int.reduceEq, Int.reduceLT, Int.reduceLE, Int.reduceNeg]
  refine callK_intro (ub_ctr (size c) c (Nat.le_refl _) hf hok _ h H _ _ _ _ (pa (h.next + 1 + 2)) (pa (h.next + 1)) (fun _ => 0) [] [] ?S ?B ?Z) ?K
  case S =>
    have nx1 : ∀ n : Nat, (n + 1 = n) = False := fun n => eq_false (by omega)
    have nx2 : ∀ n : Nat, (n + 1 + 1 = n) = False := fun n => eq_false (by omega)
    have nx3 : ∀ n : Nat, (n + 1 + 1 + 1 = n) = False := fun n => eq_false (by omega)
    have nx4 : ∀ n : Nat, (n + 1 + 1 + 1 + 1 = n) = False := fun n => eq_false (by omega)
    refine ⟨?_, ?_, ?_, ?_, ?_, ?_, ?_, ⟨[], 0, ?_, fun _ => rfl⟩, ?_, List.nodup_nil⟩
    · exact ((((((((((Ext.refl h).new _).new _).new _).set (by omega) _).new _).new _).set (by omega) _).new _).set (by omega) _)
    · simp [get_set, get_new, next_new, next_set, pa_eq, nx1, nx2, nx3, nx4]
    · simp [get_set, get_new, next_new, next_set, pa_eq, nx1, nx2, nx3, nx4]
    · simp [get_set, get_new, next_new, next_set, pa_eq, nx1, nx2, nx3, nx4]
    · rintro b (rfl | rfl | rfl | rfl | rfl) <;> exact ⟨by unfold Old; simp only [unPa_pa, next_set, next_new]; omega, by rw [unPa_pa]; omega⟩
    · rintro b (rfl | rfl | rfl) <;> simp only [ne_eq, pa_eq] <;> omega
    · simp only [ne_eq, pa_eq]; omega
    · simp [get_set, get_new, next_new, next_set, pa_eq, esC, nx1, nx2, nx3, nx4]
    · simp [get_set, get_new, next_new, next_set, pa_eq, esT, nx1, nx2, nx3, nx4]
  case B =>
    intro n
    have := order_len c
    have := size_wt c
    omega
  case Z => intro n; simp
  case K =>
    rintro x h' ⟨l', S, hz, hm'⟩
    simp +contextual only [S.hpo, ↓wA, wC, Ex.ends, evR, oneOf, top, ↓reduceIte, Nat.reduceEqDiff, Nat.reduceLeDiff, Nat.reduceAdd, Nat.reduceSub, Nat.reduceMul, reduceCtorEq, Int.reduceEq, Int.reduceLT, Int.reduceLE, Int.reduceNeg]
    refine callK_intro (keys_ctr _ h') ?_
    rintro y h2 ⟨rfl, g1, e2⟩
    have S2 := S.keep e2
    have hz' : ∀ z, z ∈ l' ↔ z ∈ free c [] := fun z => by rw [hz z]; simp
    have hlen : l'.length ≤ (free c []).length := nodup_len S.nd (fun z q => (hz' z).1 q)
    have hfl := free_len c []
    simp +contextual only [↓wA, wC, Ex.ends, evR, oneOf, top, ↓reduceIte, Nat.reduceEqDiff, Nat.reduceLeDiff, Nat.reduceAdd, Nat.reduceSub, Nat.reduceMul, reduceCtorEq, Int.reduceEq, Int.reduceLT, Int.reduceLE, Int.reduceNeg]
    refine callK_intro (sorted_ctr g1 S2.out S.nd (fun z q => mem_free c [] z (vars_of_may c hm) ((hz' z).1 q)) (by omega)) ?_
    rintro y h3 ⟨O, e3⟩
    have hr : sortZ l' = rising (free c []) := sorted_rising (sortZ_sorted l') (sortZ_perm l') S.nd hz'
    have hll : l'.length = (rising (free c [])).length := by rw [← hr, (sortZ_perm l').length_eq]
    rw [hr, hll] at O
    simp +contextual only [↓wA, wC, Ex.ends, evR, oneOf, top, ↓reduceIte, Nat.reduceEqDiff, Nat.reduceLeDiff, Nat.reduceAdd, Nat.reduceSub, Nat.reduceMul, reduceCtorEq, Int.reduceEq, Int.reduceLT, Int.reduceLE, Int.reduceNeg]
    exact ⟨O.mono (S2.ext.next), S2.ext.trans e3⟩
end Go.Proofs.YtjbiefneffiogaaGreat

namespace Go.Proofs.YtjbiefneffiogaaGreat
open Go Am Go.Sort
theorem putCells_layC {l : List Int} {c : Array Value} {o : Nat} (h : o + l.length ≤ c.size) : Go.Sort.putCells (Value.int .i64) o l.toArray c = layC c o (l.map (Value.int .i64)) := by
  apply Array.ext_getElem?
  intro j
  rw [layC_get _ _ _ _ (by rw [List.length_map]; exact h), List.length_map]
  unfold Go.Sort.putCells
  rw [Array.getElem?_mapIdx]
  by_cases hj : o ≤ j ∧ j < o + l.length
  · rw [if_pos hj, List.getElem?_map]
    have hjc : j < c.size := by omega
    have hjl : j - o < l.length := by omega
    simp only [Array.getElem?_eq_getElem hjc, Option.map_some, List.size_toArray, if_pos hj, List.getElem?_eq_getElem hjl, Option.some.injEq, Value.int.injEq, true_and]
    simp [hjl]
  · rw [if_neg hj]
    cases hc : c[j]? with
    | none => rfl
    | some y => simp only [Option.map_some, List.size_toArray, if_neg hj]
theorem sort_callsV {h h' : Heap} {b : Pa} {off : Nat} {l : List Int} {vs : List V} {esz : Nat} {st : Bool} (hg : h.get b = .ofL vs esz st) (hcs : (vs.drop off).take l.length = intsV l) (hl : off + l.length ≤ vs.length) (hl2 : l.length < 4611686018427387904)
    (he : Am.lay h b off (intsV (sortZ l)) = some h') {v : V} (hv : (∃ cap, v = .slice b off l.length cap) ∨ ∃ idx, v = .gslice b off l.length idx) : CallsV Tryz.prog 51 [v] h (.tuple []) h' := by
  refine .inl ⟨⟨_, Tryz.func51, by kernel_rfl⟩, fun w0 E w xs hx s => ?_⟩
  simp only [RelL] at hx
  obtain ⟨X, _, rfl, hX, rfl⟩ := hx
  have hX' : ∃ p cap, E b = some p ∧ X = .slice (some ⟨p.blk, p.base + off, none⟩) l.length cap := by
    rcases hv with ⟨cap, rfl⟩ | ⟨idx, rfl⟩
    · simp only [Rel] at hX
      obtain ⟨p, h1, _, h2⟩ := hX
      exact ⟨p, _, h1, h2⟩
    · simp only [Rel] at hX
      obtain ⟨p, h1, _, h2⟩ := hX
      exact ⟨p, _, h1, h2⟩
  obtain ⟨p, cap, hp, rfl⟩ := hX'
  have hb := s.at hp
  rw [hg] at hb
  obtain ⟨hn, q, c, el, fz, h1, h2, h3, h4, h5, h6, h7⟩ := hb
  rw [hp] at h1; cases h1
  have hlt := (Array.getElem?_eq_some_iff.1 h3).1
  have hcz : p.base + vs.length ≤ c.size := h7.1
  have hH : Go.Sort.Holds (Value.int .i64) w p.blk (p.base + off) l.toArray := by
    intro j hj
    have hj' : j < l.length := by simpa using hj
    have hjc : p.base + (off + j) < c.size := by omega
    have hrel := h7.2 (off + j) c[p.base + (off + j)] (by omega) (Array.getElem?_eq_getElem hjc)
    have hcell : vs[off + j]? = some (.int .i64 l[j]) := by
      have e : ((vs.drop off).take l.length)[j]? = (intsV l)[j]? := by rw [hcs]
      rw [List.getElem?_take_of_lt hj', List.getElem?_drop] at e
      rw [e]
      simp [intsV, hj']
    have hget : T.get .bad (pa (off + j)) (puts .e 0 vs) = .int .i64 l[j] := by
      have := get_puts vs 0 (off + j) .e
      rw [Nat.zero_add] at this
      rw [this, if_pos (by omega), hcell]; rfl
    rw [hget] at hrel
    simp only [Rel] at hrel
    constructor
    · simp only [World.cell?, h3]
      rw [show p.base + off + j = p.base + (off + j) from by omega, Array.getElem?_eq_getElem hjc, hrel]
      simp [hj']
    · simp only [World.frozen?, h3]
      rw [Bool.and_eq_false_iff]
      simp only [decide_eq_false_iff_not]
      omega
  refine (AnyM.slices_Sort_int Tryz.sortA p.blk (p.base + off) cap l w hH hlt hl2).mono fun e w' q => ?_
  obtain ⟨rfl, n, os, rfl⟩ := q
  rw [sortZ_eq (List.Perm.refl l)]
  have hsl : (sortZ l).length = l.length := (sortZ_perm l).length_eq
  obtain ⟨w1, r1, s1⟩ := lay_sound (P := Tryz.prog) s (intsV_rel E (sortZ l)) he hp
  have r2 := run_storeCells (P := Tryz.prog) hlt el fz (p.base + off) ((sortZ l).map encZ) c 0 (fun v hv => by
    obtain ⟨z, _, rfl⟩ := List.mem_map.1 hv
    rfl) (by rw [List.length_map]; omega) h4
  rw [withC_same h3, Nat.add_zero] at r2
  rw [r2] at r1
  have hw1 : w1 = withC w p.blk (layC c (p.base + off) ((sortZ l).map encZ)) el fz := by injection r1 with _ e; exact e.symm
  subst hw1
  refine ⟨E, _, rfl, fun _ _ q => q, by simp only [Rel]; exact ⟨_, rfl, rfl⟩, s1.below ⟨rfl, rfl, rfl, ?_, fun k hk => ?_⟩⟩
  · simp only [size_grow, withC_size, putRow, mapBlock, Sort.ahead, Array.size_modify]; omega
  · rw [withC_size] at hk
    have e1 : (grow (putRow (Value.int .i64) (Sort.ahead w n) p.blk (p.base + off) (sortZ l).toArray) os).heap[k]? = (putRow (Value.int .i64) (Sort.ahead w n) p.blk (p.base + off) (sortZ l).toArray).heap[k]? := by
      simp only [grow]
      rw [Array.getElem?_append_left]
      simp only [putRow, mapBlock, Sort.ahead, Array.size_modify]
      exact hk
    rw [e1]
    simp only [putRow, mapBlock, Sort.ahead, Array.getElem?_modify]
    by_cases hkb : p.blk = k
    · subst hkb
      rw [if_pos rfl, h3, withC_heap hlt]
      simp only [Option.map_some, onCells]
      rw [putCells_layC (by omega)]
    · rw [if_neg hkb, withC_other _ _ _ (fun e => hkb e.symm)]
theorem splice_all {A B : List V} (h : B.length = A.length) : splice A 0 B = B := by
  unfold splice
  rw [List.take_zero, List.nil_append, Nat.zero_add, List.drop_eq_nil_of_le (by omega), List.append_nil]
theorem sort_ctr {B : Nat} {h : Heap} {v : V} {l : List Int} (O : SlO B h 1 v l.length (intsV l)) (hl : l.length ≤ 8000000) :
    Ctr Tryz.prog 51 [v] h fun x h' => x = .tuple [] ∧ SlO B h' 1 v l.length (intsV (sortZ l)) ∧ Mod v.blk h h' := by
  have hs : (sortZ l).length = l.length := (sortZ_perm l).length_eq
  have hil : (intsV (sortZ l)).length = l.length := by rw [intsV_len, hs]
  obtain ⟨q1, q2⟩ := O
  cases v <;> simp only at q2 <;> try (exact q2.elim)
  case nilslice =>
    have : l = [] := List.eq_nil_of_length_eq_zero q2
    subst this
    refine ⟨_, h, .inl ⟨⟨_, Tryz.func51, by kernel_rfl⟩, fun w0 E w xs hx s => ?_⟩, rfl, ⟨rfl, rfl⟩, Mod.refl _ _⟩
    simp only [RelL, Rel] at hx
    obtain ⟨X, _, rfl, rfl, rfl⟩ := hx
    refine (AnyM.slices_Sort_int_none Tryz.sortA none 0 w).mono fun e w' q => ?_
    obtain ⟨rfl, rfl⟩ := q
    exact ⟨E, _, rfl, fun _ _ q => q, by simp only [Rel]; exact ⟨_, rfl, rfl⟩, s⟩
  case slice b off len cap =>
    obtain ⟨rfl, q3, q4, q5, q6, us, esz, st, q7, q8, q9⟩ := q2
    rw [intsV_len] at q9
    have hw : Own h b us esz st := q7
    have e := hw.lay (off := off) (ws := intsV (sortZ l)) (by rw [hil]; omega) (intsV_ones _)
    refine ⟨_, _, sort_callsV q7 q9 (by omega) (by omega) e (.inl ⟨cap, rfl⟩), rfl, ⟨by rw [hil]; omega, rfl, q3, ?_, q5, q6, ?_⟩, ?_⟩
    · unfold Old; rw [next_set]; exact q4
    · refine ⟨_, esz, st, by rw [get_set, if_pos rfl], by rw [splice_length _ _ _ (by rw [hil]; omega)]; exact q8, ?_⟩
      have := splice_inner us off 0 (intsV l) (intsV (sortZ l)) (by rw [intsV_len]; omega) (by rw [intsV_len]; exact q9) (by rw [hil, intsV_len]; omega)
      rw [hil]
      rw [intsV_len, Nat.add_zero] at this
      rw [this, splice_all (by rw [hil, intsV_len])]
    · exact (Mod.refl (fun q => q = b) h).set (fun _ => rfl) _
  case gslice b off len idx =>
    obtain ⟨rfl, q3, q4, rfl, rfl, us, st, q7, q8, q9⟩ := q2
    rw [intsV_len] at q9 q8
    have hw : Own h b us 1 st := q7
    have e := hw.lay (off := 0) (ws := intsV (sortZ l)) (by rw [hil]; omega) (intsV_ones _)
    refine ⟨_, _, sort_callsV q7 (by rw [List.drop_zero]; exact q9) (by omega) (by omega) e (.inr ⟨0, rfl⟩), rfl, ⟨by rw [hil]; omega, rfl, q3, ?_, rfl, rfl, ?_⟩, ?_⟩
    · unfold Old; rw [next_set]; exact q4
    · refine ⟨_, st, by rw [get_set, if_pos rfl], by rw [splice_length _ _ _ (by rw [hil]; omega), hil]; exact q8, ?_⟩
      have := splice_inner us 0 0 (intsV l) (intsV (sortZ l)) (by rw [intsV_len]; omega) (by rw [intsV_len, List.drop_zero]; exact q9) (by rw [hil, intsV_len]; omega)
      rw [hil]
      rw [intsV_len, Nat.add_zero, List.drop_zero] at this
      rw [this, splice_all (by rw [hil, intsV_len])]
    · exact (Mod.refl (fun q => q = b) h).set (fun _ => rfl) _
end Go.Proofs.YtjbiefneffiogaaGreat

namespace Go.Proofs.YtjbiefneffiogaaGreat
open Go Am
theorem SlO.tail {B : Nat} {h : Heap} {v : V} {n : Nat} {vs : List V} (H : SlO B h 1 v n vs) {m : Nat} (hm : m < n) :
    ∃ v', sliceV 1 v (some (.int .i64 m)) none none = some v' ∧ lenSl v' = some (.int .i64 ((n - m : Nat) : Int)) ∧ ∀ j : Nat, m + j < n → iaV 1 v' (.int .i64 j) = iaV 1 v (.int .i64 ((m + j : Nat) : Int)) := by
  obtain ⟨q1, q2⟩ := H
  cases v <;> simp only at q2 <;> try (first | omega | exact q2.elim)
  case slice b off len cap =>
    obtain ⟨rfl, q3, q4, q5, q6, us, esz, st, q7, q8, q9⟩ := q2
    have hne : Nat.beq cap m = false := by rw [← Bool.not_eq_true, Nat.beq_eq]; omega
    refine ⟨.slice b (off + m * 1) (len - m) (cap - m), ?_, rfl, fun j hj => ?_⟩
    · simp only [sliceV, sliceKnown, bound_none, bound_some (k := .i64) (m := m) (d := 0) (y := len) (by omega), hne, cond_false]
    · rw [ia_sl, ia_sl, if_pos (by omega), if_pos (by omega)]
      simp
      omega
  case gslice b off len idx =>
    obtain ⟨rfl, q3, q4, rfl, rfl, us, st, q7, q8, q9⟩ := q2
    have hlt : Nat.blt m len = true := by rw [Nat.blt_eq]; exact hm
    refine ⟨.gslice b (0 + m * 1) (len - m) (0 + m), ?_, rfl, fun j hj => ?_⟩
    · simp only [sliceV, sliceGrown, bound_none, bound_some (k := .i64) (m := m) (d := 0) (y := len) (by omega), hlt, cond_true]
    · rw [ia_g, ia_g, if_pos (by omega), if_pos (by omega)]
      simp
      omega
theorem repeat_len : ∀ n, (repeatV [.int .i64 0] n).length = n
  | 0 => rfl
  | n + 1 => by rw [repeatV, List.length_append, repeat_len n]; simp; omega
theorem repeat_ones : ∀ n, ones (repeatV [.int .i64 0] n) = true
  | 0 => rfl
  | n + 1 => by rw [repeatV]; exact ones_append rfl (repeat_ones n)
theorem splice_end {A W : List V} {m : Nat} (h : m + W.length = A.length) : splice A m W = A.take m ++ W := by
  unfold splice
  rw [h, List.drop_length, List.append_nil]
theorem SlO.wipe {B : Nat} {h : Heap} {v : V} {n : Nat} {vs : List V} (H : SlO B h 1 v n vs) {m : Nat} (hm : m < n) :
    ∃ v' h', sliceV 1 v (some (.int .i64 m)) none none = some v' ∧ clearV [.int .i64 0] v' h = .val (.tuple []) h' ∧ (∃ ws, SlO B h' 1 v n (vs.take m ++ ws)) ∧ Mod v.blk h h' := by
  obtain ⟨q1, q2⟩ := H
  have hrl := repeat_len (n - m)
  have hwl : (vs.take m ++ repeatV [.int .i64 0] (n - m)).length = vs.length := by rw [List.length_append, hrl, List.length_take]; omega
  have hne : Nat.beq (n - m) 0 = false := by rw [← Bool.not_eq_true, Nat.beq_eq]; omega
  cases v <;> simp only at q2 <;> try (first | omega | exact q2.elim)
  case slice b off len cap =>
    obtain ⟨rfl, q3, q4, q5, q6, us, esz, st, q7, q8, q9⟩ := q2
    have hnc : Nat.beq cap m = false := by rw [← Bool.not_eq_true, Nat.beq_eq]; omega
    have hw : Own h b us esz st := q7
    have e := hw.lay (off := off + m) (ws := repeatV [.int .i64 0] (len - m)) (by rw [hrl]; omega) (repeat_ones _)
    refine ⟨.slice b (off + m * 1) (len - m) (cap - m), _, ?_, ?_, ⟨repeatV [.int .i64 0] (len - m), by rw [hwl]; exact q1, rfl, q3, ?_, q5, q6, splice us (off + m) (repeatV [.int .i64 0] (len - m)), esz, st, by rw [get_set, if_pos rfl], ?_, ?_⟩, (Mod.refl (fun q => q = b) h).set (fun _ => rfl) _⟩
    · simp only [sliceV, sliceKnown, bound_none, bound_some (k := .i64) (m := m) (d := 0) (y := len) (by omega), hnc, cond_false]
    · simp only [clearV, hne, cond_false, Nat.mul_one, e]
    · unfold Old; rw [next_set]; exact q4
    · rw [splice_length _ _ _ (by rw [hrl]; omega)]; exact q8
    · have := splice_inner us off m vs (repeatV [.int .i64 0] (len - m)) (by omega) q9 (by rw [hrl]; omega)
      rw [hwl, this, splice_end (by rw [hrl]; omega)]
  case gslice b off len idx =>
    obtain ⟨rfl, q3, q4, rfl, rfl, us, st, q7, q8, q9⟩ := q2
    have hlt : Nat.blt m len = true := by rw [Nat.blt_eq]; exact hm
    have hw : Own h b us 1 st := q7
    have e := hw.lay (off := 0 + m) (ws := repeatV [.int .i64 0] (len - m)) (by rw [hrl]; omega) (repeat_ones _)
    refine ⟨.gslice b (0 + m * 1) (len - m) (0 + m), _, ?_, ?_, ⟨repeatV [.int .i64 0] (len - m), by rw [hwl]; exact q1, rfl, q3, ?_, rfl, rfl, splice us (0 + m) (repeatV [.int .i64 0] (len - m)), st, by rw [get_set, if_pos rfl], ?_, ?_⟩, (Mod.refl (fun q => q = b) h).set (fun _ => rfl) _⟩
    · simp only [sliceV, sliceGrown, bound_none, bound_some (k := .i64) (m := m) (d := 0) (y := len) (by omega), hlt, cond_true]
    · simp only [clearV, hne, cond_false, Nat.mul_one, e]
    · unfold Old; rw [next_set]; exact q4
    · rw [splice_length _ _ _ (by rw [hrl]; omega), hwl]; exact q8
    · have := splice_inner us 0 m vs (repeatV [.int .i64 0] (len - m)) (by omega) (by rw [List.drop_zero]; exact q9) (by rw [hrl]; omega)
      rw [List.drop_zero] at this
      rw [hwl, this, splice_end (by rw [hrl]; omega)]
end Go.Proofs.YtjbiefneffiogaaGreat

namespace Go.Proofs.YtjbiefneffiogaaGreat
open Go Am
theorem compact_small {l : List Int} (h : l.length < 2) : compact l = l := by
  match l, h with
  | [], _ => rfl
  | [x], _ => rfl
theorem w_dec {k : Nat} (h1 : 1 ≤ k) (h2 : k ≤ 4611686018427387904) : IntKind.i64.wrap ((k : Int) - 1) = ((k - 1 : Nat) : Int) := by
  rw [wrap_i64 (by omega) (by omega)]; omega
theorem intsV_set (l : List Int) (i : Nat) (x : Int) : (intsV l).set i (.int .i64 x) = intsV (l.set i x) := by
  simp [intsV, List.map_set]
set_option maxHeartbeats 1000000 in
theorem compact_ctr {B : Nat} {h : Heap} {v : V} {l : List Int} (O : SlO B h 1 v l.length (intsV l)) (hl : l.length ≤ 8000000) :
    Ctr Tryz.prog 52 [v] h fun x h' => SlO B h' 1 x (compact l).length (intsV (compact l)) ∧ Mod v.blk h h' ∧ ∀ b, x.blk b → v.blk b := by
  refine c52_ctr rfl (wpK_of ?_)
  unfold c52
  have hL := O.v.len
  by_cases h2 : l.length < 2
  · have g2 : ((l.length : Int) < 2) = True := eq_true (by omega)
    simp +contextual only [hL, g2, ↓wA, wC, Ex.ends, evR, oneOf, top, ↓reduceIte, Nat.reduceEqDiff, Nat.reduceLeDiff, Nat.reduceAdd, Nat.reduceSub, Nat.reduceMul, reduceCtorEq, Int.reduceEq, Int.reduceLT, Int.reduceLE, Int.reduceNeg]
    rw [compact_small h2]
    exact ⟨O, Mod.refl _ _, fun b q => trivial⟩
  have g2 : ((l.length : Int) < 2) = False := eq_false (by omega)
  simp +contextual only [hL, g2, ↓wA, wC, Ex.ends, evR, oneOf, top, ↓reduceIte, Nat.reduceEqDiff, Nat.reduceLeDiff, Nat.reduceAdd, Nat.reduceSub, Nat.reduceMul, reduceCtorEq, Int.reduceEq, Int.reduceLT, Int.reduceLE, Int.reduceNeg]
  refine loopK_intro (fun r h' => h' = h ∧ r 0 = v ∧ ∃ k : Nat, r 3 = .int .i64 k ∧ ∃ hk : 1 ≤ k ∧ k ≤ l.length, l.take k ++ compactF (l[k - 1]'(by omega)) (l.drop k) = compact l) (fun r h' => l.length - (r 3).toN) ?_ ?_
  · refine ⟨rfl, by simp only [↓wA, wC, ↓reduceIte, Nat.reduceEqDiff, reduceCtorEq], 1, by simp only [↓wA, wC, ↓reduceIte, Nat.reduceEqDiff, reduceCtorEq] <;> rfl, ⟨Nat.le_refl _, by omega⟩, ?_⟩
    match l, h2 with
    | x :: l, _ => rfl
  · rintro r h' ⟨rfl, r0, k, r3, ⟨hk1, hk2⟩, hc⟩
    unfold c52l2
    by_cases hlt : k < l.length
    · have g0 : ((k : Int) < (l.length : Int)) = True := eq_true (by omega)
      obtain ⟨b, o, ia, ld⟩ := ints_at O.v (k := .i64) hlt
      obtain ⟨b1, o1, ia1, ld1⟩ := ints_at O.v (k := .i64) (show k - 1 < l.length by omega)
      have wd := w_dec hk1 (by omega)
      have wi := w_inc hlt (by omega)
      rw [List.drop_eq_getElem_cons hlt, compactF] at hc
      by_cases he : l[k] = l[k - 1]
      · have ee := eq_true he
        rw [if_pos he] at hc
        obtain ⟨v2, t1, t2, t3⟩ := SlO.tail O hlt
        simp +contextual only [r0, r3, hL, g0, ia, ld, wd, ia1, ld1, ee, t1, ↓wA, wC, Ex.ends, evR, oneOf, top, ↓reduceIte, Nat.reduceEqDiff, Nat.reduceLeDiff, Nat.reduceAdd, Nat.reduceSub, Nat.reduceMul, reduceCtorEq, Int.reduceEq, Int.reduceLT, Int.reduceLE, Int.reduceNeg]
        refine loopK_intro (fun r h2 => Mod v.blk h' h2 ∧ r 0 = v ∧ r 4 = v2 ∧ ∃ (k1 j : Nat) (m : List Int), r 3 = .int .i64 k1 ∧ r 5 = .int .i64 j ∧ SlO B h2 1 v l.length (intsV m) ∧ m.length = l.length ∧ 1 ≤ k1 ∧ 1 ≤ j ∧ k1 + 1 ≤ k + j ∧ ∃ hj : k + j ≤ l.length, m.take k1 ++ compactF (l[k + j - 1]'(by omega)) (l.drop (k + j)) = compact l ∧ ∀ q, k + j ≤ q + 1 → m[q]? = l[q]?) (fun r h' => l.length - (r 5).toN) ?_ ?_
        · refine ⟨Mod.refl _ _, by simp only [r0, ↓wA, wC, ↓reduceIte, Nat.reduceEqDiff, reduceCtorEq], by simp only [↓wA, wC, ↓reduceIte, Nat.reduceEqDiff, reduceCtorEq], k, 1, l, by simp only [r3, ↓wA, wC, ↓reduceIte, Nat.reduceEqDiff, reduceCtorEq], by simp only [↓wA, wC, ↓reduceIte, Nat.reduceEqDiff, reduceCtorEq] <;> rfl, O, rfl, hk1, Nat.le_refl _, Nat.le_refl _, hlt, ?_, fun q _ => rfl⟩
          rw [← hc]
          congr 2
        · clear r0 r3
          rintro r h2 ⟨hm, r0, r4, k1, j, m, r3, r5, Om, hml, hk11, hj1, hkj, hj, hcm, hq⟩
          unfold c52l1
          by_cases hjl : k + j < l.length
          · have gj : ((j : Int) < ((l.length - k : Nat) : Int)) = True := eq_true (by omega)
            have Om' : SlV h2 1 v m.length (intsV m) := by rw [hml]; exact Om.v
            obtain ⟨b3, o3, ia3, ld3⟩ := ints_at Om' (k := .i64) (show k + j < m.length by omega)
            obtain ⟨b4, o4, ia4, ld4⟩ := ints_at Om' (k := .i64) (show k + (j - 1) < m.length by omega)
            obtain ⟨b5, o5, ia5, ld5⟩ := ints_at Om' (k := .i64) (show k1 < m.length by omega)
            have ha5 := at_ia Om' (show k1 < m.length by omega) ia5
            rw [← t3 j (by omega)] at ia3
            rw [← t3 (j - 1) (by omega)] at ia4
            have hv3 : m[k + j]'(by omega) = l[k + j] := by
              have := hq (k + j) (by omega)
              rw [List.getElem?_eq_getElem (by omega), List.getElem?_eq_getElem hjl] at this
              exact Option.some.inj this
            have hv4 : m[k + (j - 1)]'(by omega) = l[k + j - 1]'(by omega) := by
              have := hq (k + j - 1) (by omega)
              rw [List.getElem?_eq_getElem (by omega), List.getElem?_eq_getElem (by omega)] at this
              have e : k + (j - 1) = k + j - 1 := by omega
              simp only [e]
              exact Option.some.inj this
            rw [hv3] at ld3
            rw [hv4] at ld4
            have wdj := w_dec hj1 (by omega)
            have wij := w_inc (i := j) (n := l.length) (by omega) (by omega)
            have wik := w_inc (i := k1) (n := l.length) (by omega) (by omega)
            rw [List.drop_eq_getElem_cons hjl, compactF] at hcm
            have hidx : k + (j + 1) - 1 = k + j := by omega
            by_cases hne : l[k + j] = l[k + j - 1]
            · have en := eq_true hne
              rw [if_pos hne] at hcm
              simp +contextual only [r0, r3, r4, r5, t2, gj, ia3, ld3, wdj, ia4, ld4, en, wij, ↓wA, wC, Ex.ends, evR, oneOf, top, ↓reduceIte, Nat.reduceEqDiff, Nat.reduceLeDiff, Nat.reduceAdd, Nat.reduceSub, Nat.reduceMul, reduceCtorEq, Int.reduceEq, Int.reduceLT, Int.reduceLE, Int.reduceNeg]
              refine ⟨⟨hm, k1, j + 1, m, rfl, rfl, Om, hml, hk11, by omega, by omega, hjl, ?_, fun q hq' => hq q (by omega)⟩, by omega⟩
              simp only [hidx, hne]
              exact hcm
            · have en := eq_false hne
              rw [if_neg hne] at hcm
              obtain ⟨K, p1, p2, p3, p4⟩ := Om.putc ha5 (c := k1 * 1) (y := .int .i64 l[k + j]) (by rw [intsV_len]; omega) rfl rfl
              rw [Nat.mul_one, intsV_set] at p3
              have hm2 : Mod v.blk h' (h2.set b5 K) := hm.set (fun _ => p4) _
              simp +contextual only [r0, r3, r4, r5, t2, gj, ia3, ld3, wdj, ia4, ld4, en, ia5, p1, wij, wik, ↓wA, wC, Ex.ends, evR, oneOf, top, ↓reduceIte, Nat.reduceEqDiff, Nat.reduceLeDiff, Nat.reduceAdd, Nat.reduceSub, Nat.reduceMul, reduceCtorEq, Int.reduceEq, Int.reduceLT, Int.reduceLE, Int.reduceNeg]
              refine ⟨⟨hm2, k1 + 1, j + 1, m.set k1 l[k + j], rfl, rfl, p3, by rw [List.length_set]; exact hml, by omega, by omega, by omega, hjl, ?_, fun q hq' => ?_⟩, by omega⟩
              · simp only [hidx]
                rw [← hcm, List.take_succ_eq_append_getElem (by rw [List.length_set]; omega), List.getElem_set_self, List.take_set_of_le (Nat.le_refl _)]
                simp only [List.append_assoc, List.cons_append, List.nil_append]
                rfl
              · rw [List.getElem?_set_ne (by omega)]
                exact hq q (by omega)
          · have gj : ((j : Int) < ((l.length - k : Nat) : Int)) = False := eq_false (by omega)
            rw [List.drop_eq_nil_of_le (by omega), compactF, List.append_nil] at hcm
            obtain ⟨v3, h3, y1, y2, ⟨ws, y3⟩, y4⟩ := SlO.wipe Om (m := k1) (by omega)
            obtain ⟨v4, z1, z2, z3⟩ := y3.cut (k := .i64) (m := k1) (by omega) (by omega)
            rw [Nat.mul_one, intsV_take, List.take_append_of_le_length (by rw [intsV_len, List.length_take]; omega), intsV_take, List.take_take, Nat.min_self, hcm] at z2
            have hkl : k1 = (compact l).length := by rw [← hcm, List.length_take]; omega
            simp +contextual only [r0, r3, r4, r5, t2, gj, y1, y2, z1, k_clr, ↓wA, wC, Ex.ends, evR, oneOf, top, ↓reduceIte, Nat.reduceEqDiff, Nat.reduceLeDiff, Nat.reduceAdd, Nat.reduceSub, Nat.reduceMul, reduceCtorEq, Int.reduceEq, Int.reduceLT, Int.reduceLE, Int.reduceNeg]
            rw [← hkl]
            exact ⟨z2, hm.trans y4, z3⟩
      · have ee := eq_false he
        rw [if_neg he] at hc
        simp +contextual only [r0, r3, hL, g0, ia, ld, wd, ia1, ld1, ee, wi, ↓wA, wC, Ex.ends, evR, oneOf, top, ↓reduceIte, Nat.reduceEqDiff, Nat.reduceLeDiff, Nat.reduceAdd, Nat.reduceSub, Nat.reduceMul, reduceCtorEq, Int.reduceEq, Int.reduceLT, Int.reduceLE, Int.reduceNeg]
        refine ⟨⟨k + 1, rfl, ⟨by omega, hlt⟩, ?_⟩, by omega⟩
        rw [← hc, List.take_succ_eq_append_getElem hlt]
        simp only [List.append_assoc, List.cons_append, List.nil_append, Nat.add_sub_cancel]
    · have g0 : ((k : Int) < (l.length : Int)) = False := eq_false (by omega)
      rw [List.drop_eq_nil_of_le (by omega), compactF, List.append_nil, List.take_of_length_le (by omega)] at hc
      simp +contextual only [r0, r3, hL, g0, ↓wA, wC, Ex.ends, evR, oneOf, top, ↓reduceIte, Nat.reduceEqDiff, Nat.reduceLeDiff, Nat.reduceAdd, Nat.reduceSub, Nat.reduceMul, reduceCtorEq, Int.reduceEq, Int.reduceLT, Int.reduceLE, Int.reduceNeg]
      rw [← hc]
      exact ⟨O, Mod.refl _ _, fun b q => trivial⟩
end Go.Proofs.YtjbiefneffiogaaGreat

namespace Go.Proofs.YtjbiefneffiogaaGreat
open Go Am
def boundM (c : Co) : List Int := if may ownP c then rising (order c) else []
def freeM (c : Co) : List Int := if may ownP c then rising (free c []) else []
def checkM (c : Co) : Int := if !may ownP c then 2 else if (order c).length ≠ (rising (order c)).length then 7 else if 0 < (rising (free c [])).length then 6 else 0
theorem may_ref {c : Co} (hw : wt c ≤ 400) : may (fun b c => ownR b c) c = may ownP c := (may_same c (few_of_fit (m := 1048576) (by omega) c (fit_of_wt c hw))).symm
theorem ok_of {c : Co} (hw : wt c ≤ 400) (h : may ownP c = true) : okC c := ok_of_may c (by rw [may_ref hw]; exact h)
theorem order_small {c : Co} (hw : wt c ≤ 400) : (order c).length ≤ 1200 := by have := order_len c; have := size_wt c; omega
def NewS (h h' : Heap) (l : List Int) (x : V) : Prop := SlO h.next h' 1 x l.length (intsV l) ∧ Ext h h'
theorem NewS.nil (h : Heap) : NewS h h [] .nilslice := ⟨⟨rfl, rfl⟩, Ext.refl _⟩
theorem NewS.from {h h1 h' : Heap} {l : List Int} {x : V} (H : NewS h1 h' l x) (e : Ext h h1) : NewS h h' l x := ⟨H.1.mono e.next, e.trans H.2⟩
section
variable (c : Co) (vs : List V) (h : Heap) (H : CoIn h c vs) (hw : wt c ≤ 400)
include H hw
theorem mayW : Ctr Tryz.prog 44 [.agg vs] h fun x h' => x = .bool (may ownP c) ∧ Ext h h' := may_ctr (size c) c (Nat.le_refl _) (fit_of_wt c hw) vs h H
theorem rmayW : Ctr Tryz.prog 47 [.agg vs] h fun x h' => x = .bool (may ownP c) ∧ Ext h h' :=
  (rmay_ctr (size c) c (Nat.le_refl _) (fit_of_wt c hw) vs h H).mono fun x h' q => by rw [may_ref hw] at q; exact q
theorem Bound_ctr : Ctr Tryz.prog 25 [.agg vs] h fun x h' => NewS h h' (boundM c) x := by
  have hol := order_small hw
  obtain ⟨va, vt, vl, rfl, Ha, Ht, Hl⟩ := H.open
  refine c25_ctr rfl (wpK_of ?_)
  unfold c25
  have e0 : Ext h (h.new (.ofL [.int .i64 c.k, .int .i64 c.x, .int .i64 c.n, .str c.s, va, vt, vl] 0 false)) := (Ext.refl h).new _
  have cb : (h.new (.ofL [.int .i64 c.k, .int .i64 c.x, .int .i64 c.n, .str c.s, va, vt, vl] 0 false)).get (pa h.next) = .ofL [.int .i64 c.k, .int .i64 c.x, .int .i64 c.n, .str c.s, va, vt, vl] 0 false := get_new_self _
  simp +contextual only [↓wA, wC, Ex.ends, evR, oneOf, top, ↓reduceIte, Nat.reduceEqDiff, Nat.reduceLeDiff, Nat.reduceAdd, Nat.reduceSub, Nat.reduceMul, reduceCtorEq, Int.reduceEq, Int.reduceLT, Int.reduceLE, Int.reduceNeg]
  refine callK_intro (mayW c _ _ (H.ext e0) hw) ?_
  rintro x h1 ⟨rfl, e1⟩
  have bx : h1.get (pa h.next) = .ofL [.int .i64 c.k, .int .i64 c.x, .int .i64 c.n, .str c.s, va, vt, vl] 0 false := by rw [e1.get _ (old_lt (by rw [next_new]; omega))]; exact cb
  unfold boundM
  cases hm : may ownP c with
  | false =>
    simp +contextual only [↓wA, wC, Ex.ends, evR, oneOf, top, ↓reduceIte, Nat.reduceEqDiff, Nat.reduceLeDiff, Nat.reduceAdd, Nat.reduceSub, Nat.reduceMul, reduceCtorEq, Int.reduceEq, Int.reduceLT, Int.reduceLE, Int.reduceNeg]
    exact (NewS.nil h1).from (e0.trans e1)
  | true =>
    simp +contextual only [bx, ↓wA, wC, Ex.ends, evR, oneOf, top, ↓reduceIte, Nat.reduceEqDiff, Nat.reduceLeDiff, Nat.reduceAdd, Nat.reduceSub, Nat.reduceMul, reduceCtorEq, Int.reduceEq, Int.reduceLT, Int.reduceLE, Int.reduceNeg]
    refine callK_intro (Order_ctr c _ _ (H.ext (e0.trans e1)) (fit_of_wt c hw) (ok_of hw hm) (by omega)) ?_
    rintro x h2 ⟨O2, e2⟩
    simp +contextual only [↓wA, wC, Ex.ends, evR, oneOf, top, ↓reduceIte, Nat.reduceEqDiff, Nat.reduceLeDiff, Nat.reduceAdd, Nat.reduceSub, Nat.reduceMul, reduceCtorEq, Int.reduceEq, Int.reduceLT, Int.reduceLE, Int.reduceNeg]
    refine callK_intro (sort_ctr O2 (by omega)) ?_
    rintro y h3 ⟨rfl, O3, m3⟩
    have hsl : (sortZ (order c)).length = (order c).length := (sortZ_perm _).length_eq
    rw [← hsl] at O3
    simp +contextual only [↓wA, wC, Ex.ends, evR, oneOf, top, ↓reduceIte, Nat.reduceEqDiff, Nat.reduceLeDiff, Nat.reduceAdd, Nat.reduceSub, Nat.reduceMul, reduceCtorEq, Int.reduceEq, Int.reduceLT, Int.reduceLE, Int.reduceNeg]
    refine callK_intro (compact_ctr O3 (by omega)) ?_
    rintro z h4 ⟨O4, m4, b4⟩
    rw [compact_sorted (sortZ_sorted (order c)) (sortZ_perm _)] at O4
    simp +contextual only [↓wA, wC, Ex.ends, evR, oneOf, top, ↓reduceIte, Nat.reduceEqDiff, Nat.reduceLeDiff, Nat.reduceAdd, Nat.reduceSub, Nat.reduceMul, reduceCtorEq, Int.reduceEq, Int.reduceLT, Int.reduceLE, Int.reduceNeg]
    have e4 : Ext h1 h4 := e2.mod_new (m3.trans m4) (fun b q => O2.base q)
    exact NewS.from ⟨O4, e4⟩ (e0.trans e1)
theorem rBound_ctr : Ctr Tryz.prog 26 [.agg vs] h fun x h' => NewS h h' (boundM c) x := by
  have hol := order_small hw
  obtain ⟨va, vt, vl, rfl, Ha, Ht, Hl⟩ := H.open
  refine c26_ctr rfl (wpK_of ?_)
  unfold c26
  have e0 : Ext h (h.new (.ofL [.int .i64 c.k, .int .i64 c.x, .int .i64 c.n, .str c.s, va, vt, vl] 0 false)) := (Ext.refl h).new _
  have cb : (h.new (.ofL [.int .i64 c.k, .int .i64 c.x, .int .i64 c.n, .str c.s, va, vt, vl] 0 false)).get (pa h.next) = .ofL [.int .i64 c.k, .int .i64 c.x, .int .i64 c.n, .str c.s, va, vt, vl] 0 false := get_new_self _
  simp +contextual only [↓wA, wC, Ex.ends, evR, oneOf, top, ↓reduceIte, Nat.reduceEqDiff, Nat.reduceLeDiff, Nat.reduceAdd, Nat.reduceSub, Nat.reduceMul, reduceCtorEq, Int.reduceEq, Int.reduceLT, Int.reduceLE, Int.reduceNeg]
  refine callK_intro (rmayW c _ _ (H.ext e0) hw) ?_
  rintro x h1 ⟨rfl, e1⟩
  have bx : h1.get (pa h.next) = .ofL [.int .i64 c.k, .int .i64 c.x, .int .i64 c.n, .str c.s, va, vt, vl] 0 false := by rw [e1.get _ (old_lt (by rw [next_new]; omega))]; exact cb
  unfold boundM
  cases hm : may ownP c with
  | false =>
    simp +contextual only [↓wA, wC, Ex.ends, evR, oneOf, top, ↓reduceIte, Nat.reduceEqDiff, Nat.reduceLeDiff, Nat.reduceAdd, Nat.reduceSub, Nat.reduceMul, reduceCtorEq, Int.reduceEq, Int.reduceLT, Int.reduceLE, Int.reduceNeg]
    exact (NewS.nil h1).from (e0.trans e1)
  | true =>
    simp +contextual only [bx, ↓wA, wC, Ex.ends, evR, oneOf, top, ↓reduceIte, Nat.reduceEqDiff, Nat.reduceLeDiff, Nat.reduceAdd, Nat.reduceSub, Nat.reduceMul, reduceCtorEq, Int.reduceEq, Int.reduceLT, Int.reduceLE, Int.reduceNeg]
    refine callK_intro (rorder_ctr (size c) c (Nat.le_refl _) (fit_of_wt c hw) (ok_of hw hm) _ h1 (H.ext (e0.trans e1)) h1 [] .nilslice (Ext.refl _) ⟨rfl, rfl⟩ (by simp; omega)) ?_
    rintro x h2 G2
    have O2 := G2.own
    rw [List.nil_append] at O2
    simp +contextual only [↓wA, wC, Ex.ends, evR, oneOf, top, ↓reduceIte, Nat.reduceEqDiff, Nat.reduceLeDiff, Nat.reduceAdd, Nat.reduceSub, Nat.reduceMul, reduceCtorEq, Int.reduceEq, Int.reduceLT, Int.reduceLE, Int.reduceNeg]
    refine callK_intro (rising_ctr (order c) x h2 O2.v (by omega)) ?_
    rintro z h4 ⟨O4, e4⟩
    simp +contextual only [↓wA, wC, Ex.ends, evR, oneOf, top, ↓reduceIte, Nat.reduceEqDiff, Nat.reduceLeDiff, Nat.reduceAdd, Nat.reduceSub, Nat.reduceMul, reduceCtorEq, Int.reduceEq, Int.reduceLT, Int.reduceLE, Int.reduceNeg]
    exact NewS.from ⟨O4, e4⟩ ((e0.trans e1).trans G2.ext)
theorem rFree_ctr : Ctr Tryz.prog 28 [.agg vs] h fun x h' => NewS h h' (freeM c) x := by
  have hol := order_small hw
  have hfl := free_len c []
  obtain ⟨va, vt, vl, rfl, Ha, Ht, Hl⟩ := H.open
  refine c28_ctr rfl (wpK_of ?_)
  unfold c28
  have e0 : Ext h (h.new (.ofL [.int .i64 c.k, .int .i64 c.x, .int .i64 c.n, .str c.s, va, vt, vl] 0 false)) := (Ext.refl h).new _
  have cb : (h.new (.ofL [.int .i64 c.k, .int .i64 c.x, .int .i64 c.n, .str c.s, va, vt, vl] 0 false)).get (pa h.next) = .ofL [.int .i64 c.k, .int .i64 c.x, .int .i64 c.n, .str c.s, va, vt, vl] 0 false := get_new_self _
  simp +contextual only [↓wA, wC, Ex.ends, evR, oneOf, top, ↓reduceIte, Nat.reduceEqDiff, Nat.reduceLeDiff, Nat.reduceAdd, Nat.reduceSub, Nat.reduceMul, reduceCtorEq, Int.reduceEq, Int.reduceLT, Int.reduceLE, Int.reduceNeg]
  refine callK_intro (rmayW c _ _ (H.ext e0) hw) ?_
  rintro x h1 ⟨rfl, e1⟩
  have bx : h1.get (pa h.next) = .ofL [.int .i64 c.k, .int .i64 c.x, .int .i64 c.n, .str c.s, va, vt, vl] 0 false := by rw [e1.get _ (old_lt (by rw [next_new]; omega))]; exact cb
  unfold freeM
  cases hm : may ownP c with
  | false =>
    simp +contextual only [↓wA, wC, Ex.ends, evR, oneOf, top, ↓reduceIte, Nat.reduceEqDiff, Nat.reduceLeDiff, Nat.reduceAdd, Nat.reduceSub, Nat.reduceMul, reduceCtorEq, Int.reduceEq, Int.reduceLT, Int.reduceLE, Int.reduceNeg]
    exact (NewS.nil h1).from (e0.trans e1)
  | true =>
    simp +contextual only [bx, ↓wA, wC, Ex.ends, evR, oneOf, top, ↓reduceIte, Nat.reduceEqDiff, Nat.reduceLeDiff, Nat.reduceAdd, Nat.reduceSub, Nat.reduceMul, reduceCtorEq, Int.reduceEq, Int.reduceLT, Int.reduceLE, Int.reduceNeg]
    refine callK_intro (rfree_ctr (size c) c (Nat.le_refl _) (fit_of_wt c hw) (ok_of hw hm) _ h1 (H.ext (e0.trans e1)) h1 [] .nilslice [] .nilslice (Ext.refl _) ⟨rfl, rfl⟩ ⟨rfl, rfl⟩ (fun b q => q.elim) (by simp; omega) (by simp; omega)) ?_
    rintro x h2 G2
    have O2 := G2.own
    rw [List.nil_append] at O2
    simp +contextual only [↓wA, wC, Ex.ends, evR, oneOf, top, ↓reduceIte, Nat.reduceEqDiff, Nat.reduceLeDiff, Nat.reduceAdd, Nat.reduceSub, Nat.reduceMul, reduceCtorEq, Int.reduceEq, Int.reduceLT, Int.reduceLE, Int.reduceNeg]
    refine callK_intro (rising_ctr (free c []) x h2 O2.v (by omega)) ?_
    rintro z h4 ⟨O4, e4⟩
    simp +contextual only [↓wA, wC, Ex.ends, evR, oneOf, top, ↓reduceIte, Nat.reduceEqDiff, Nat.reduceLeDiff, Nat.reduceAdd, Nat.reduceSub, Nat.reduceMul, reduceCtorEq, Int.reduceEq, Int.reduceLT, Int.reduceLE, Int.reduceNeg]
    exact NewS.from ⟨O4, e4⟩ ((e0.trans e1).trans G2.ext)
end
end Go.Proofs.YtjbiefneffiogaaGreat

namespace Go.Proofs.YtjbiefneffiogaaGreat
open Go Am
section
variable (c : Co) (vs : List V) (h : Heap) (H : CoIn h c vs) (hw : wt c ≤ 400)
include H hw
theorem Check_ctr : Ctr Tryz.prog 20 [.agg vs] h fun x h' => x = .int .i64 (checkM c) ∧ Ext h h' := by
  have hol := order_small hw
  obtain ⟨va, vt, vl, rfl, Ha, Ht, Hl⟩ := H.open
  refine c20_ctr rfl (wpK_of ?_)
  unfold c20
  have e0 : Ext h (h.new (.ofL [.int .i64 c.k, .int .i64 c.x, .int .i64 c.n, .str c.s, va, vt, vl] 0 false)) := (Ext.refl h).new _
  have cb : (h.new (.ofL [.int .i64 c.k, .int .i64 c.x, .int .i64 c.n, .str c.s, va, vt, vl] 0 false)).get (pa h.next) = (.ofL [.int .i64 c.k, .int .i64 c.x, .int .i64 c.n, .str c.s, va, vt, vl] 0 false) := get_new_self _
  simp +contextual only [↓wA, wC, Ex.ends, evR, oneOf, top, ↓reduceIte, Nat.reduceEqDiff, Nat.reduceLeDiff, Nat.reduceAdd, Nat.reduceSub, Nat.reduceMul, reduceCtorEq, Int.reduceEq, Int.reduceLT, Int.reduceLE, Int.reduceNeg]
  refine callK_intro (mayW c _ _ (H.ext e0) hw) ?_
  rintro x h1 ⟨rfl, e1⟩
  have E1 := e0.trans e1
  have bx : h1.get (pa h.next) = (.ofL [.int .i64 c.k, .int .i64 c.x, .int .i64 c.n, .str c.s, va, vt, vl] 0 false) := by rw [e1.get _ (old_lt (by rw [next_new]; omega))]; exact cb
  have n1 : h.next < h1.next := by have := e1.next; rw [next_new] at this; omega
  unfold checkM
  cases hm : may ownP c with
  | false =>
    simp +contextual only [↓wA, wC, Ex.ends, evR, oneOf, top, ↓reduceIte, Nat.reduceEqDiff, Nat.reduceLeDiff, Nat.reduceAdd, Nat.reduceSub, Nat.reduceMul, reduceCtorEq, Int.reduceEq, Int.reduceLT, Int.reduceLE, Int.reduceNeg]
    exact E1
  | true =>
    have hb : boundM c = rising (order c) := by rw [boundM, if_pos hm]
    have hfr : freeM c = rising (free c []) := by rw [freeM, if_pos hm]
    simp +contextual only [bx, ↓wA, wC, Ex.ends, evR, oneOf, top, ↓reduceIte, Nat.reduceEqDiff, Nat.reduceLeDiff, Nat.reduceAdd, Nat.reduceSub, Nat.reduceMul, reduceCtorEq, Int.reduceEq, Int.reduceLT, Int.reduceLE, Int.reduceNeg]
    refine callK_intro (Order_ctr c _ _ (H.ext E1) (fit_of_wt c hw) (ok_of hw hm) (by omega)) ?_
    rintro x h2 ⟨O2, e2⟩
    skip
    have bx2 : h2.get (pa h.next) = (.ofL [.int .i64 c.k, .int .i64 c.x, .int .i64 c.n, .str c.s, va, vt, vl] 0 false) := by rw [e2.get _ (old_lt n1)]; exact bx
    have n2 : h.next < h2.next := Nat.lt_of_lt_of_le n1 e2.next
    have l2 := O2.v.len
    simp +contextual only [bx, bx2, l2, ↓wA, wC, Ex.ends, evR, oneOf, top, ↓reduceIte, Nat.reduceEqDiff, Nat.reduceLeDiff, Nat.reduceAdd, Nat.reduceSub, Nat.reduceMul, reduceCtorEq, Int.reduceEq, Int.reduceLT, Int.reduceLE, Int.reduceNeg]
    refine callK_intro (Bound_ctr c _ _ (H.ext (E1.trans e2)) hw) ?_
    rintro y h3 ⟨O3, e3⟩
    rw [hb] at O3
    have bx3 : h3.get (pa h.next) = (.ofL [.int .i64 c.k, .int .i64 c.x, .int .i64 c.n, .str c.s, va, vt, vl] 0 false) := by rw [e3.get _ (old_lt n2)]; exact bx2
    have l3 := O3.v.len
    have E3 := (E1.trans e2).trans e3
    by_cases hne : (order c).length = (rising (order c)).length
    · have g1 : (((order c).length : Int) = ((rising (order c)).length : Int)) = True := eq_true (by omega)
      have g1' : ((order c).length = (rising (order c)).length) = True := eq_true hne
      simp +contextual only [bx, bx2, bx3, l2, l3, g1, ↓wA, wC, Ex.ends, evR, oneOf, top, ↓reduceIte, Nat.reduceEqDiff, Nat.reduceLeDiff, Nat.reduceAdd, Nat.reduceSub, Nat.reduceMul, reduceCtorEq, Int.reduceEq, Int.reduceLT, Int.reduceLE, Int.reduceNeg]
      refine callK_intro (Unbound_ctr c _ _ (H.ext E3) hw hm (ok_of hw hm)) ?_
      rintro z h4 ⟨O4, e4⟩
      skip
      have l4 := O4.v.len
      have E4 := E3.trans e4
      by_cases hf : 0 < (rising (free c [])).length
      · have g2 : ((0 : Int) < ((rising (free c [])).length : Int)) = True := eq_true (by omega)
        have g2' : (0 < (rising (free c [])).length) = True := eq_true hf
        simp +contextual only [l4, g2, g1', g2', ne_eq, ↓wA, wC, Ex.ends, evR, oneOf, top, ↓reduceIte, Nat.reduceEqDiff, Nat.reduceLeDiff, Nat.reduceAdd, Nat.reduceSub, Nat.reduceMul, reduceCtorEq, Int.reduceEq, Int.reduceLT, Int.reduceLE, Int.reduceNeg]
        exact E4
      · have g2 : ((0 : Int) < ((rising (free c [])).length : Int)) = False := eq_false (by omega)
        have g2' : (0 < (rising (free c [])).length) = False := eq_false hf
        simp +contextual only [l4, g2, g1', g2', ne_eq, ↓wA, wC, Ex.ends, evR, oneOf, top, ↓reduceIte, Nat.reduceEqDiff, Nat.reduceLeDiff, Nat.reduceAdd, Nat.reduceSub, Nat.reduceMul, reduceCtorEq, Int.reduceEq, Int.reduceLT, Int.reduceLE, Int.reduceNeg]
        exact E4
    · have g1 : (((order c).length : Int) = ((rising (order c)).length : Int)) = False := eq_false (by omega)
      have g1' : ((order c).length = (rising (order c)).length) = False := eq_false hne
      simp +contextual only [bx, bx2, bx3, l2, l3, g1, g1', ne_eq, ↓wA, wC, Ex.ends, evR, oneOf, top, ↓reduceIte, Nat.reduceEqDiff, Nat.reduceLeDiff, Nat.reduceAdd, Nat.reduceSub, Nat.reduceMul, reduceCtorEq, Int.reduceEq, Int.reduceLT, Int.reduceLE, Int.reduceNeg]
      exact E3
theorem rCheck_ctr : Ctr Tryz.prog 21 [.agg vs] h fun x h' => x = .int .i64 (checkM c) ∧ Ext h h' := by
  have hol := order_small hw
  obtain ⟨va, vt, vl, rfl, Ha, Ht, Hl⟩ := H.open
  refine c21_ctr rfl (wpK_of ?_)
  unfold c21
  have e0 : Ext h (h.new (.ofL [.int .i64 c.k, .int .i64 c.x, .int .i64 c.n, .str c.s, va, vt, vl] 0 false)) := (Ext.refl h).new _
  have cb : (h.new (.ofL [.int .i64 c.k, .int .i64 c.x, .int .i64 c.n, .str c.s, va, vt, vl] 0 false)).get (pa h.next) = (.ofL [.int .i64 c.k, .int .i64 c.x, .int .i64 c.n, .str c.s, va, vt, vl] 0 false) := get_new_self _
  simp +contextual only [↓wA, wC, Ex.ends, evR, oneOf, top, ↓reduceIte, Nat.reduceEqDiff, Nat.reduceLeDiff, Nat.reduceAdd, Nat.reduceSub, Nat.reduceMul, reduceCtorEq, Int.reduceEq, Int.reduceLT, Int.reduceLE, Int.reduceNeg]
  refine callK_intro (rmayW c _ _ (H.ext e0) hw) ?_
  rintro x h1 ⟨rfl, e1⟩
  have E1 := e0.trans e1
  have bx : h1.get (pa h.next) = (.ofL [.int .i64 c.k, .int .i64 c.x, .int .i64 c.n, .str c.s, va, vt, vl] 0 false) := by rw [e1.get _ (old_lt (by rw [next_new]; omega))]; exact cb
  have n1 : h.next < h1.next := by have := e1.next; rw [next_new] at this; omega
  unfold checkM
  cases hm : may ownP c with
  | false =>
    simp +contextual only [↓wA, wC, Ex.ends, evR, oneOf, top, ↓reduceIte, Nat.reduceEqDiff, Nat.reduceLeDiff, Nat.reduceAdd, Nat.reduceSub, Nat.reduceMul, reduceCtorEq, Int.reduceEq, Int.reduceLT, Int.reduceLE, Int.reduceNeg]
    exact E1
  | true =>
    have hb : boundM c = rising (order c) := by rw [boundM, if_pos hm]
    have hfr : freeM c = rising (free c []) := by rw [freeM, if_pos hm]
    simp +contextual only [bx, ↓wA, wC, Ex.ends, evR, oneOf, top, ↓reduceIte, Nat.reduceEqDiff, Nat.reduceLeDiff, Nat.reduceAdd, Nat.reduceSub, Nat.reduceMul, reduceCtorEq, Int.reduceEq, Int.reduceLT, Int.reduceLE, Int.reduceNeg]
    refine callK_intro (rorder_ctr (size c) c (Nat.le_refl _) (fit_of_wt c hw) (ok_of hw hm) _ h1 (H.ext E1) h1 [] .nilslice (Ext.refl _) ⟨rfl, rfl⟩ (by simp; omega)) ?_
    rintro x h2 G2
    have O2 := G2.own; rw [List.nil_append] at O2; have e2 := G2.ext
    have bx2 : h2.get (pa h.next) = (.ofL [.int .i64 c.k, .int .i64 c.x, .int .i64 c.n, .str c.s, va, vt, vl] 0 false) := by rw [e2.get _ (old_lt n1)]; exact bx
    have n2 : h.next < h2.next := Nat.lt_of_lt_of_le n1 e2.next
    have l2 := O2.v.len
    simp +contextual only [bx, bx2, l2, ↓wA, wC, Ex.ends, evR, oneOf, top, ↓reduceIte, Nat.reduceEqDiff, Nat.reduceLeDiff, Nat.reduceAdd, Nat.reduceSub, Nat.reduceMul, reduceCtorEq, Int.reduceEq, Int.reduceLT, Int.reduceLE, Int.reduceNeg]
    refine callK_intro (rBound_ctr c _ _ (H.ext (E1.trans e2)) hw) ?_
    rintro y h3 ⟨O3, e3⟩
    rw [hb] at O3
    have bx3 : h3.get (pa h.next) = (.ofL [.int .i64 c.k, .int .i64 c.x, .int .i64 c.n, .str c.s, va, vt, vl] 0 false) := by rw [e3.get _ (old_lt n2)]; exact bx2
    have l3 := O3.v.len
    have E3 := (E1.trans e2).trans e3
    by_cases hne : (order c).length = (rising (order c)).length
    · have g1 : (((order c).length : Int) = ((rising (order c)).length : Int)) = True := eq_true (by omega)
      have g1' : ((order c).length = (rising (order c)).length) = True := eq_true hne
      simp +contextual only [bx, bx2, bx3, l2, l3, g1, ↓wA, wC, Ex.ends, evR, oneOf, top, ↓reduceIte, Nat.reduceEqDiff, Nat.reduceLeDiff, Nat.reduceAdd, Nat.reduceSub, Nat.reduceMul, reduceCtorEq, Int.reduceEq, Int.reduceLT, Int.reduceLE, Int.reduceNeg]
      refine callK_intro (rFree_ctr c _ _ (H.ext E3) hw) ?_
      rintro z h4 ⟨O4, e4⟩
      rw [hfr] at O4
      have l4 := O4.v.len
      have E4 := E3.trans e4
      by_cases hf : 0 < (rising (free c [])).length
      · have g2 : ((0 : Int) < ((rising (free c [])).length : Int)) = True := eq_true (by omega)
        have g2' : (0 < (rising (free c [])).length) = True := eq_true hf
        simp +contextual only [l4, g2, g1', g2', ne_eq, ↓wA, wC, Ex.ends, evR, oneOf, top, ↓reduceIte, Nat.reduceEqDiff, Nat.reduceLeDiff, Nat.reduceAdd, Nat.reduceSub, Nat.reduceMul, reduceCtorEq, Int.reduceEq, Int.reduceLT, Int.reduceLE, Int.reduceNeg]
        exact E4
      · have g2 : ((0 : Int) < ((rising (free c [])).length : Int)) = False := eq_false (by omega)
        have g2' : (0 < (rising (free c [])).length) = False := eq_false hf
        simp +contextual only [l4, g2, g1', g2', ne_eq, ↓wA, wC, Ex.ends, evR, oneOf, top, ↓reduceIte, Nat.reduceEqDiff, Nat.reduceLeDiff, Nat.reduceAdd, Nat.reduceSub, Nat.reduceMul, reduceCtorEq, Int.reduceEq, Int.reduceLT, Int.reduceLE, Int.reduceNeg]
        exact E4
    · have g1 : (((order c).length : Int) = ((rising (order c)).length : Int)) = False := eq_false (by omega)
      have g1' : ((order c).length = (rising (order c)).length) = False := eq_false hne
      simp +contextual only [bx, bx2, bx3, l2, l3, g1, g1', ne_eq, ↓wA, wC, Ex.ends, evR, oneOf, top, ↓reduceIte, Nat.reduceEqDiff, Nat.reduceLeDiff, Nat.reduceAdd, Nat.reduceSub, Nat.reduceMul, reduceCtorEq, Int.reduceEq, Int.reduceLT, Int.reduceLE, Int.reduceNeg]
      exact E3
end
end Go.Proofs.YtjbiefneffiogaaGreat

namespace Go.Proofs.YtjbiefneffiogaaGreat
open Go Am
theorem atom_neq0 (k n k' n' : Int) (s s' : List UInt8) : (binC Tryz.prog .neq 41).run (.agg [.int .i64 k, .int .i64 n, .str s]) (.agg [.int .i64 k', .int .i64 n', .str s']) =
   (match (bif Int.eqB k k' then (bif Int.eqB n n' then (bif beqBytes s s' then some true else some false) else some false) else some false : Option Bool) with
    | some b => some (.bool (bif true then !b else b)) | none => none) := by kernel_rfl
theorem atom_same (q : At) : (BK.other .neq 41).run Tryz.prog (.agg q.enc) (.agg q.enc) = some (.bool false) := by
  rw [show q.enc = [.int .i64 q.k, .int .i64 q.n, .str q.s] from rfl]
  rw [show (BK.other .neq 41).run Tryz.prog = (binC Tryz.prog .neq 41).run from rfl, atom_neq0]
  simp [eqB_dec, beqBytes_dec]
theorem sameInts_ctr (l : List Int) (va vb : V) (h : Heap) (Ha : SlV h 1 va l.length (intsV l)) (Hb : SlV h 1 vb l.length (intsV l)) (hl : l.length ≤ 4611686018427387904) :
    Ctr Tryz.prog 24 [va, vb] h fun x h' => x = .bool true ∧ h' = h := by
  refine c24_ctr rfl (wpK_of ?_)
  unfold c24
  have hL := Ha.len
  have hM := Hb.len
  simp +contextual only [hL, hM, ↓wA, wC, Ex.ends, evR, oneOf, top, ↓reduceIte, Nat.reduceEqDiff, Nat.reduceLeDiff, Nat.reduceAdd, Nat.reduceSub, Nat.reduceMul, reduceCtorEq, Int.reduceEq, Int.reduceLT, Int.reduceLE, Int.reduceNeg]
  refine loopK_intro (fun r h' => h' = h ∧ r 0 = va ∧ r 1 = vb ∧ ∃ i : Nat, r 5 = .int .i64 i ∧ i ≤ l.length) (fun r h' => l.length - (r 5).toN) ?_ ?_
  · exact ⟨rfl, by simp only [↓wA, wC, ↓reduceIte, Nat.reduceEqDiff, reduceCtorEq], by simp only [↓wA, wC, ↓reduceIte, Nat.reduceEqDiff, reduceCtorEq], 0, by simp only [↓wA, wC, ↓reduceIte, Nat.reduceEqDiff, reduceCtorEq] <;> rfl, by omega⟩
  · rintro r h' ⟨rfl, r0, r1, i, r5, hi⟩
    unfold c24l1
    by_cases hlt : i < l.length
    · have g0 : ((i : Int) < (l.length : Int)) = True := eq_true (by omega)
      obtain ⟨b, o, ia, ld⟩ := ints_at Ha (k := .i64) hlt
      obtain ⟨b', o', ia', ld1⟩ := ints_at Hb (k := .i64) hlt
      have w := w_inc hlt hl
      simp +contextual only [r0, r1, r5, hL, g0, ia, ld, ia', ld1, w, ↓wA, wC, Ex.ends, evR, oneOf, top, ↓reduceIte, Nat.reduceEqDiff, Nat.reduceLeDiff, Nat.reduceAdd, Nat.reduceSub, Nat.reduceMul, reduceCtorEq, Int.reduceEq, Int.reduceLT, Int.reduceLE, Int.reduceNeg]
      exact ⟨⟨i + 1, rfl, hlt⟩, by omega⟩
    · have g0 : ((i : Int) < (l.length : Int)) = False := eq_false (by omega)
      simp +contextual only [r0, r1, r5, hL, g0, ↓wA, wC, Ex.ends, evR, oneOf, top, ↓reduceIte, Nat.reduceEqDiff, Nat.reduceLeDiff, Nat.reduceAdd, Nat.reduceSub, Nat.reduceMul, reduceCtorEq, Int.reduceEq, Int.reduceLT, Int.reduceLE, Int.reduceNeg]
theorem sameAtoms_ctr (l : List At) (va vb : V) (h : Heap) (Ha : SlV h 3 va l.length (atsV l)) (Hb : SlV h 3 vb l.length (atsV l)) (hl : l.length ≤ 4611686018427387904) :
    Ctr Tryz.prog 42 [va, vb] h fun x h' => x = .bool true ∧ h' = h := by
  refine c42_ctr rfl (wpK_of ?_)
  unfold c42
  have hL := Ha.len
  have hM := Hb.len
  simp +contextual only [hL, hM, ↓wA, wC, Ex.ends, evR, oneOf, top, ↓reduceIte, Nat.reduceEqDiff, Nat.reduceLeDiff, Nat.reduceAdd, Nat.reduceSub, Nat.reduceMul, reduceCtorEq, Int.reduceEq, Int.reduceLT, Int.reduceLE, Int.reduceNeg]
  refine loopK_intro (fun r h' => h' = h ∧ r 0 = va ∧ r 1 = vb ∧ ∃ i : Nat, r 5 = .int .i64 i ∧ i ≤ l.length) (fun r h' => l.length - (r 5).toN) ?_ ?_
  · exact ⟨rfl, by simp only [↓wA, wC, ↓reduceIte, Nat.reduceEqDiff, reduceCtorEq], by simp only [↓wA, wC, ↓reduceIte, Nat.reduceEqDiff, reduceCtorEq], 0, by simp only [↓wA, wC, ↓reduceIte, Nat.reduceEqDiff, reduceCtorEq] <;> rfl, by omega⟩
  · rintro r h' ⟨rfl, r0, r1, i, r5, hi⟩
    unfold c42l1
    by_cases hlt : i < l.length
    · have g0 : ((i : Int) < (l.length : Int)) = True := eq_true (by omega)
      obtain ⟨b, o, ia, ld, _⟩ := ats_at Ha (k := .i64) hlt
      obtain ⟨b', o', ia', ld1, _⟩ := ats_at Hb (k := .i64) hlt
      have w := w_inc hlt hl
      simp +contextual only [r0, r1, r5, hL, g0, ia, ld, ia', ld1, w, atom_same, ↓wA, wC, Ex.ends, evR, oneOf, top, ↓reduceIte, Nat.reduceEqDiff, Nat.reduceLeDiff, Nat.reduceAdd, Nat.reduceSub, Nat.reduceMul, reduceCtorEq, Int.reduceEq, Int.reduceLT, Int.reduceLE, Int.reduceNeg]
      exact ⟨⟨i + 1, rfl, hlt⟩, by omega⟩
    · have g0 : ((i : Int) < (l.length : Int)) = False := eq_false (by omega)
      simp +contextual only [r0, r1, r5, hL, g0, ↓wA, wC, Ex.ends, evR, oneOf, top, ↓reduceIte, Nat.reduceEqDiff, Nat.reduceLeDiff, Nat.reduceAdd, Nat.reduceSub, Nat.reduceMul, reduceCtorEq, Int.reduceEq, Int.reduceLT, Int.reduceLE, Int.reduceNeg]
theorem same_ctr : ∀ (N : Nat) (c : Co), size c ≤ N → fit 1048576 c → ∀ (vs us : List V) (h : Heap), CoIn h c vs → CoIn h c us → Ctr Tryz.prog 16 [.agg vs, .agg us] h fun x h' => x = .bool true ∧ Ext h h'
  | 0, c, hs, _, _, _, _, _, _ => by have := size_pos c; omega
  | N + 1, c, hs, hf, vs, us, h, H, J => by
    obtain ⟨f1, f2, f3, f4, f5⟩ := hf.kids
    have hsl := size_l c
    obtain ⟨va, vt, vl, rfl, Ha, Ht, Hl⟩ := H.open
    obtain ⟨ua, ut, ul, rfl, Ja, Jt, Jl⟩ := J.open
    have kids : ∀ (h' : Heap), Ext h h' → Ctr Tryz.prog 43 [vl, ul] h' fun x h2 => x = .bool true ∧ Ext h' h2 := by
      intro g hg
      refine c43_ctr rfl (wpK_of ?_)
      unfold c43
      have hL := (Hl.ext hg).len
      have hM := (Jl.ext hg).len
      simp +contextual only [hL, hM, ↓wA, wC, Ex.ends, evR, oneOf, top, ↓reduceIte, Nat.reduceEqDiff, Nat.reduceLeDiff, Nat.reduceAdd, Nat.reduceSub, Nat.reduceMul, reduceCtorEq, Int.reduceEq, Int.reduceLT, Int.reduceLE, Int.reduceNeg]
      refine loopK_intro (fun r h' => Ext g h' ∧ r 0 = vl ∧ r 1 = ul ∧ ∃ i : Nat, r 5 = .int .i64 i ∧ i ≤ c.l.length) (fun r h' => c.l.length - (r 5).toN) ?_ ?_
      · exact ⟨Ext.refl _, by simp only [↓wA, wC, ↓reduceIte, Nat.reduceEqDiff, reduceCtorEq], by simp only [↓wA, wC, ↓reduceIte, Nat.reduceEqDiff, reduceCtorEq], 0, by simp only [↓wA, wC, ↓reduceIte, Nat.reduceEqDiff, reduceCtorEq] <;> rfl, by omega⟩
      · rintro r h' ⟨hx, r0, r1, i, r5, hi⟩
        unfold c43l1
        by_cases hlt : i < c.l.length
        · have g0 : ((i : Int) < (c.l.length : Int)) = True := eq_true (by omega)
          obtain ⟨b, o, u, ia, hu, lds⟩ := Hl.atx (k := .i64) hlt
          obtain ⟨b', o', u', ia', hu', lds'⟩ := Jl.atx (k := .i64) hlt
          have ld := fun g2 e => (lds g2 e).1
          have ld' := fun g2 e => (lds' g2 e).1
          have hgx := hg.trans hx
          have w := w_inc hlt (by omega)
          have hfi : c.l[i]? = some c.l[i] := List.getElem?_eq_getElem hlt
          have hsz := size_idx hfi
          simp +contextual only [r0, r1, r5, hL, g0, ia, ia', ld h' hgx, ld' h' hgx, ↓wA, wC, Ex.ends, evR, oneOf, top, ↓reduceIte, Nat.reduceEqDiff, Nat.reduceLeDiff, Nat.reduceAdd, Nat.reduceSub, Nat.reduceMul, reduceCtorEq, Int.reduceEq, Int.reduceLT, Int.reduceLE, Int.reduceNeg]
          refine callK_intro (same_ctr N c.l[i] (by omega) (fits_at f5 hfi) u u' h' (hu.ext hgx) (hu'.ext hgx)) ?_
          rintro x g2 ⟨rfl, e2⟩
          simp +contextual only [r0, r1, r5, w, ia, ia', ld h' hgx, ld' h' hgx, ld g2 (hgx.trans e2), ld' g2 (hgx.trans e2), ↓wA, wC, Ex.ends, evR, oneOf, top, ↓reduceIte, Nat.reduceEqDiff, Nat.reduceLeDiff, Nat.reduceAdd, Nat.reduceSub, Nat.reduceMul, reduceCtorEq, Int.reduceEq, Int.reduceLT, Int.reduceLE, Int.reduceNeg]
          exact ⟨⟨hx.trans e2, i + 1, rfl, hlt⟩, by omega⟩
        · have g0 : ((i : Int) < (c.l.length : Int)) = False := eq_false (by omega)
          simp +contextual only [r0, r1, r5, hL, g0, ↓wA, wC, Ex.ends, evR, oneOf, top, ↓reduceIte, Nat.reduceEqDiff, Nat.reduceLeDiff, Nat.reduceAdd, Nat.reduceSub, Nat.reduceMul, reduceCtorEq, Int.reduceEq, Int.reduceLT, Int.reduceLE, Int.reduceNeg]
          exact hx
    refine c16_ctr rfl (wpK_of ?_)
    unfold c16
    have e0 : Ext h ((h.new (.ofL [.int .i64 c.k, .int .i64 c.x, .int .i64 c.n, .str c.s, va, vt, vl] 0 false)).new (.ofL [.int .i64 c.k, .int .i64 c.x, .int .i64 c.n, .str c.s, ua, ut, ul] 0 false)) := ((Ext.refl h).new _).new _
    have g1 : ((h.new (.ofL [.int .i64 c.k, .int .i64 c.x, .int .i64 c.n, .str c.s, va, vt, vl] 0 false)).new (.ofL [.int .i64 c.k, .int .i64 c.x, .int .i64 c.n, .str c.s, ua, ut, ul] 0 false)).get (pa h.next) = .ofL [.int .i64 c.k, .int .i64 c.x, .int .i64 c.n, .str c.s, va, vt, vl] 0 false := by
      rw [get_new, if_neg (by rw [pa_eq, next_new]; omega), get_new_self]
    have g2 : ((h.new (.ofL [.int .i64 c.k, .int .i64 c.x, .int .i64 c.n, .str c.s, va, vt, vl] 0 false)).new (.ofL [.int .i64 c.k, .int .i64 c.x, .int .i64 c.n, .str c.s, ua, ut, ul] 0 false)).get (pa (h.next + 1)) = .ofL [.int .i64 c.k, .int .i64 c.x, .int .i64 c.n, .str c.s, ua, ut, ul] 0 false := by
      rw [get_new, if_pos (by rw [next_new])]
    have hn : ((h.new (.ofL [.int .i64 c.k, .int .i64 c.x, .int .i64 c.n, .str c.s, va, vt, vl] 0 false)).new (.ofL [.int .i64 c.k, .int .i64 c.x, .int .i64 c.n, .str c.s, ua, ut, ul] 0 false)).next = h.next + 2 := by rw [next_new, next_new]
    simp +contextual only [↓wA, wC, Ex.ends, evR, oneOf, top, ↓reduceIte, Nat.reduceEqDiff, Nat.reduceLeDiff, Nat.reduceAdd, Nat.reduceSub, Nat.reduceMul, reduceCtorEq, Int.reduceEq, Int.reduceLT, Int.reduceLE, Int.reduceNeg]
    generalize ((h.new (.ofL [.int .i64 c.k, .int .i64 c.x, .int .i64 c.n, .str c.s, va, vt, vl] 0 false)).new (.ofL [.int .i64 c.k, .int .i64 c.x, .int .i64 c.n, .str c.s, ua, ut, ul] 0 false)) = H0 at *
    refine callK_intro (sameAtoms_ctr c.a va ua H0 (Ha.ext e0) (Ja.ext e0) (by omega)) ?_
    rintro x h1 ⟨rfl, rfl⟩
    simp +contextual only [g1, g2, ↓wA, wC, Ex.ends, evR, oneOf, top, ↓reduceIte, Nat.reduceEqDiff, Nat.reduceLeDiff, Nat.reduceAdd, Nat.reduceSub, Nat.reduceMul, reduceCtorEq, Int.reduceEq, Int.reduceLT, Int.reduceLE, Int.reduceNeg]
    refine callK_intro (sameInts_ctr c.t vt ut h1 (Ht.ext e0) (Jt.ext e0) (by omega)) ?_
    rintro x h2 ⟨rfl, rfl⟩
    simp +contextual only [g1, g2, ↓wA, wC, Ex.ends, evR, oneOf, top, ↓reduceIte, Nat.reduceEqDiff, Nat.reduceLeDiff, Nat.reduceAdd, Nat.reduceSub, Nat.reduceMul, reduceCtorEq, Int.reduceEq, Int.reduceLT, Int.reduceLE, Int.reduceNeg]
    refine callK_intro (kids h2 e0) ?_
    rintro x h3 ⟨rfl, e3⟩
    simp +contextual only [↓wA, wC, Ex.ends, evR, oneOf, top, ↓reduceIte, Nat.reduceEqDiff, Nat.reduceLeDiff, Nat.reduceAdd, Nat.reduceSub, Nat.reduceMul, reduceCtorEq, Int.reduceEq, Int.reduceLT, Int.reduceLE, Int.reduceNeg]
    exact e0.trans e3
end Go.Proofs.YtjbiefneffiogaaGreat

namespace Go.Proofs.YtjbiefneffiogaaGreat
open Go Am
theorem quo_100 {P : Program} {n : Nat} (h : n ≤ 4611686018427387904) : (BK.int .quo).run P (.int .i64 (n : Int)) (.int .i64 100) = some (.int .i64 ((n / 100 : Nat) : Int)) := by
  simp only [BK.run, intC, intD, V.onInt]
  rw [show (eqKind .i64 .i64 && !Int.eqB 100 0) = true from rfl, cond_true]
  rw [show (n : Int).tdiv 100 = ((n / 100 : Nat) : Int) from by rw [Int.tdiv_eq_ediv_of_nonneg (by omega)]; rfl, wrap_i64 (by omega) (by omega)]
theorem atW_le {m : Nat} : ∀ (a : List At), (∀ q ∈ a, q.s.length ≤ m) → atW a ≤ a.length * (m / 100)
  | [], _ => by simp [atW]
  | q :: a, h => by
    have h1 := atW_le a fun p hp => h p (by simp [hp])
    have h2 := Nat.div_le_div_right (c := 100) (h q (by simp))
    simp only [atW, List.length_cons, Nat.add_mul]
    omega
def own (c : Co) : Nat := 1 + c.a.length + c.t.length + c.s.length / 100 + atW c.a
theorem wt_own (c : Co) : wt c = own c + wts c.l := by cases c; rfl
theorem own_le {c : Co} (hf : fit 1048576 c) : own c ≤ 20000000000 := by
  obtain ⟨k, x, n, s, a, t, l⟩ := c
  obtain ⟨h1, h2, h3, h4, h5, h6⟩ := hf
  have h7 := atW_le a h5
  have h8 : a.length * (1048576 / 100) ≤ 1048576 * (1048576 / 100) := Nat.mul_le_mul_right _ h2
  simp only [own, Co.a, Co.t, Co.s]
  omega
set_option maxHeartbeats 1000000 in
theorem cores_ctr : ∀ (N : Nat) (c : Co), size c ≤ N → fit 1048576 c → ∀ (vs : List V) (h : Heap), CoIn h c vs → ∀ (m : Nat), m ≤ 1000 →
    Ctr Tryz.prog 39 [.agg vs, .int .i64 m] h fun x h' => (∃ n : Nat, x = .int .i64 n ∧ n ≤ m + 20000000000 ∧ (wt c ≤ m → n = wt c) ∧ (m < wt c → m < n)) ∧ Ext h h'
  | 0, c, hs, _, _, _, _, _, _ => by have := size_pos c; omega
  | N + 1, c, hs, hf, vs, h, H, m, hm => by
    obtain ⟨f1, f2, f3, f4, f5⟩ := hf.kids
    have hsl := size_l c
    have how := own_le hf
    have hwo := wt_own c
    have hfa : ∀ q ∈ c.a, q.s.length ≤ 1048576 := by cases c; exact hf.2.2.2.2.1
    obtain ⟨va, vt, vl, rfl, Ha, Ht, Hl⟩ := H.open
    refine c39_ctr rfl (wpK_of ?_)
    unfold c39
    have e0 : Ext h (h.new (.ofL [.int .i64 c.k, .int .i64 c.x, .int .i64 c.n, .str c.s, va, vt, vl] 0 false)) := (Ext.refl h).new _
    have cb : (h.new (.ofL [.int .i64 c.k, .int .i64 c.x, .int .i64 c.n, .str c.s, va, vt, vl] 0 false)).get (pa h.next) = .ofL [.int .i64 c.k, .int .i64 c.x, .int .i64 c.n, .str c.s, va, vt, vl] 0 false := get_new_self _
    have la := (Ha.ext e0).len
    have lt := (Ht.ext e0).len
    have ll := (Hl.ext e0).len
    have w1 : IntKind.i64.wrap (1 + (c.a.length : Int)) = ((1 + c.a.length : Nat) : Int) := by rw [wrap_i64 (by omega) (by omega)]; push_cast; rfl
    have w2 := wrap_add (a := 1 + c.a.length) (b := c.t.length) (by omega)
    have w3 := wrap_add (a := 1 + c.a.length + c.t.length) (b := c.s.length / 100) (by omega)
    have q1 := quo_100 (P := Tryz.prog) (n := c.s.length) (by omega)
    have n1 : h.next < (h.new (.ofL [.int .i64 c.k, .int .i64 c.x, .int .i64 c.n, .str c.s, va, vt, vl] 0 false)).next := by rw [next_new]; omega
    simp +contextual only [la, lt, ll, w1, w2, w3, q1, ↓wA, wC, Ex.ends, evR, oneOf, top, ↓reduceIte, Nat.reduceEqDiff, Nat.reduceLeDiff, Nat.reduceAdd, Nat.reduceSub, Nat.reduceMul, reduceCtorEq, Int.reduceEq, Int.reduceLT, Int.reduceLE, Int.reduceNeg]
    generalize h.new (.ofL [.int .i64 c.k, .int .i64 c.x, .int .i64 c.n, .str c.s, va, vt, vl] 0 false) = H0 at *
    refine loopK_intro (fun r h' => h' = H0 ∧ r 1 = .int .i64 m ∧ r 2 = .ptr (pa h.next) 0 ∧ ∃ (i n : Nat), r 6 = .int .i64 i ∧ i ≤ c.a.length ∧ r 5 = .int .i64 n ∧ n + atW (c.a.drop i) = own c) (fun r h' => c.a.length - (r 6).toN) ?_ ?_
    · exact ⟨rfl, by simp only [↓wA, wC, ↓reduceIte, Nat.reduceEqDiff, reduceCtorEq], by simp only [↓wA, wC, ↓reduceIte, Nat.reduceEqDiff, reduceCtorEq], 0, 1 + c.a.length + c.t.length + c.s.length / 100, by simp only [↓wA, wC, ↓reduceIte, Nat.reduceEqDiff, reduceCtorEq] <;> rfl, by omega, by simp only [↓wA, wC, ↓reduceIte, Nat.reduceEqDiff, reduceCtorEq], by rw [List.drop_zero]; rfl⟩
    · rintro r h' ⟨rfl, r1, r2, i, n, r6, hi, r5, hn⟩
      unfold c39l1
      by_cases hlt : i < c.a.length
      · have g0 : ((i : Int) < (c.a.length : Int)) = True := eq_true (by omega)
        obtain ⟨b, o, ia, ldn, ld⟩ := ats_at (Ha.ext e0) (k := .i64) hlt
        have l2 := ld 2 (by omega)
        have wi := w_inc hlt (by omega)
        rw [List.drop_eq_getElem_cons hlt, atW] at hn
        have hqs := hfa _ (List.getElem_mem hlt)
        generalize c.a[i] = q at *
        rw [show q.enc[2]? = some (.str q.s) from rfl] at l2
        have q2 := quo_100 (P := Tryz.prog) (n := q.s.length) (by omega)
        have w4 := wrap_add (a := n) (b := q.s.length / 100) (by omega)
        simp +contextual only [r1, r2, r5, r6, cb, la, g0, ia, l2, q2, w4, wi, ↓wA, wC, Ex.ends, evR, oneOf, top, ↓reduceIte, Nat.reduceEqDiff, Nat.reduceLeDiff, Nat.reduceAdd, Nat.reduceSub, Nat.reduceMul, reduceCtorEq, Int.reduceEq, Int.reduceLT, Int.reduceLE, Int.reduceNeg]
        exact ⟨⟨i + 1, n + q.s.length / 100, rfl, hlt, rfl, by omega⟩, by omega⟩
      · have g0 : ((i : Int) < (c.a.length : Int)) = False := eq_false (by omega)
        rw [List.drop_eq_nil_of_le (by omega), atW] at hn
        obtain rfl : n = own c := by omega
        simp +contextual only [r1, r2, r5, r6, cb, la, g0, ↓wA, wC, Ex.ends, evR, oneOf, top, ↓reduceIte, Nat.reduceEqDiff, Nat.reduceLeDiff, Nat.reduceAdd, Nat.reduceSub, Nat.reduceMul, reduceCtorEq, Int.reduceEq, Int.reduceLT, Int.reduceLE, Int.reduceNeg]
        refine loopK_intro (fun r h2 => Ext h' h2 ∧ r 1 = .int .i64 m ∧ r 2 = .ptr (pa h.next) 0 ∧ ∃ (i n : Nat), r 7 = .int .i64 i ∧ i ≤ c.l.length ∧ r 5 = .int .i64 n ∧ n ≤ m + 20000000000 ∧ (wt c ≤ m → n + wts (c.l.drop i) = wt c) ∧ (m < wt c → m < n + wts (c.l.drop i))) (fun r h' => c.l.length - (r 7).toN) ?_ ?_
        · exact ⟨Ext.refl _, by simp only [r1, ↓wA, wC, ↓reduceIte, Nat.reduceEqDiff, reduceCtorEq], by simp only [r2, ↓wA, wC, ↓reduceIte, Nat.reduceEqDiff, reduceCtorEq], 0, own c, by simp only [↓wA, wC, ↓reduceIte, Nat.reduceEqDiff, reduceCtorEq] <;> rfl, by omega, by simp only [r5, ↓wA, wC, ↓reduceIte, Nat.reduceEqDiff, reduceCtorEq], by omega, fun _ => by rw [List.drop_zero]; omega, fun _ => by rw [List.drop_zero]; omega⟩
        · clear r1 r2 r5 r6
          rintro r h2 ⟨hx, r1, r2, i, n, r7, hi, r5, hnm, hn1, hn2⟩
          unfold c39l2
          have bx : h2.get (pa h.next) = .ofL [.int .i64 c.k, .int .i64 c.x, .int .i64 c.n, .str c.s, va, vt, vl] 0 false := by rw [hx.get _ (old_lt n1)]; exact cb
          by_cases hlt : i < c.l.length
          · have g0 : ((i : Int) < (c.l.length : Int)) = True := eq_true (by omega)
            by_cases hle : n ≤ m
            · have g1 : ((n : Int) ≤ (m : Int)) = True := eq_true (by omega)
              obtain ⟨b, o, u, ia, hu, lds⟩ := Hl.atx (k := .i64) hlt
              have ld := (lds h2 (e0.trans hx)).1
              have hfi : c.l[i]? = some c.l[i] := List.getElem?_eq_getElem hlt
              have hsz := size_idx hfi
              have wi := w_inc hlt (by omega)
              have ws : IntKind.i64.wrap ((m : Int) - (n : Int)) = ((m - n : Nat) : Int) := by rw [wrap_i64 (by omega) (by omega)]; omega
              rw [List.drop_eq_getElem_cons hlt, wts] at hn1 hn2
              simp +contextual only [r1, r2, r5, r7, bx, ll, g0, g1, ia, ld, ws, ↓wA, wC, Ex.ends, evR, oneOf, top, ↓reduceIte, Nat.reduceEqDiff, Nat.reduceLeDiff, Nat.reduceAdd, Nat.reduceSub, Nat.reduceMul, reduceCtorEq, Int.reduceEq, Int.reduceLT, Int.reduceLE, Int.reduceNeg]
              refine callK_intro (cores_ctr N c.l[i] (by omega) (fits_at f5 hfi) u h2 (hu.ext (e0.trans hx)) (m - n) (by omega)) ?_
              rintro x h3 ⟨⟨n', rfl, p1, p2, p3⟩, e3⟩
              have w4 := wrap_add (a := n) (b := n') (by omega)
              simp +contextual only [r1, r2, r5, r7, w4, wi, ↓wA, wC, Ex.ends, evR, oneOf, top, ↓reduceIte, Nat.reduceEqDiff, Nat.reduceLeDiff, Nat.reduceAdd, Nat.reduceSub, Nat.reduceMul, reduceCtorEq, Int.reduceEq, Int.reduceLT, Int.reduceLE, Int.reduceNeg]
              refine ⟨⟨hx.trans e3, i + 1, n + n', rfl, hlt, rfl, by omega, fun q => ?_, fun q => ?_⟩, by omega⟩
              · have := hn1 q
                have := p2 (by omega)
                omega
              · have := hn2 q
                by_cases hc : wt c.l[i] ≤ m - n
                · have := p2 hc; omega
                · have := p3 (by omega); omega
            · have g1 : ((n : Int) ≤ (m : Int)) = False := eq_false (by omega)
              simp +contextual only [r1, r2, r5, r7, bx, ll, g0, g1, ↓wA, wC, Ex.ends, evR, oneOf, top, ↓reduceIte, Nat.reduceEqDiff, Nat.reduceLeDiff, Nat.reduceAdd, Nat.reduceSub, Nat.reduceMul, reduceCtorEq, Int.reduceEq, Int.reduceLT, Int.reduceLE, Int.reduceNeg]
              exact ⟨⟨n, rfl, hnm, fun q => by have := hn1 q; omega, fun q => by omega⟩, e0.trans hx⟩
          · have g0 : ((i : Int) < (c.l.length : Int)) = False := eq_false (by omega)
            rw [List.drop_eq_nil_of_le (by omega), wts] at hn1 hn2
            simp +contextual only [r1, r2, r5, r7, bx, ll, g0, ↓wA, wC, Ex.ends, evR, oneOf, top, ↓reduceIte, Nat.reduceEqDiff, Nat.reduceLeDiff, Nat.reduceAdd, Nat.reduceSub, Nat.reduceMul, reduceCtorEq, Int.reduceEq, Int.reduceLT, Int.reduceLE, Int.reduceNeg]
            exact ⟨⟨n, rfl, hnm, fun q => by have := hn1 q; omega, fun q => by have := hn2 q; omega⟩, e0.trans hx⟩
theorem large_ctr (c : Co) (hf : fit 1048576 c) (vs : List V) (h : Heap) (H : CoIn h c vs) : Ctr Tryz.prog 10 [.agg vs, .int .i64 400] h fun x h' => x = .bool (decide (400 < wt c)) ∧ Ext h h' := by
  obtain ⟨va, vt, vl, rfl, Ha, Ht, Hl⟩ := H.open
  refine c10_ctr rfl (wpK_of ?_)
  unfold c10
  have e0 : Ext h (h.new (.ofL [.int .i64 c.k, .int .i64 c.x, .int .i64 c.n, .str c.s, va, vt, vl] 0 false)) := (Ext.refl h).new _
  simp +contextual only [↓wA, wC, Ex.ends, evR, oneOf, top, ↓reduceIte, Nat.reduceEqDiff, Nat.reduceLeDiff, Nat.reduceAdd, Nat.reduceSub, Nat.reduceMul, reduceCtorEq, Int.reduceEq, Int.reduceLT, Int.reduceLE, Int.reduceNeg]
  refine callK_intro (cores_ctr (size c) c (Nat.le_refl _) hf _ _ (H.ext e0) 400 (by omega)) ?_
  rintro x h1 ⟨⟨n, rfl, p1, p2, p3⟩, e1⟩
  by_cases hw : 400 < wt c
  · have hn := p3 hw
    have g : ((400 : Int) < (n : Int)) = True := eq_true (by omega)
    have g' := eq_true hw
    simp +contextual only [g, g', ↓wA, wC, Ex.ends, evR, oneOf, top, ↓reduceIte, Nat.reduceEqDiff, Nat.reduceLeDiff, Nat.reduceAdd, Nat.reduceSub, Nat.reduceMul, reduceCtorEq, Int.reduceEq, Int.reduceLT, Int.reduceLE, Int.reduceNeg]
    exact e0.trans e1
  · have hn := p2 (by omega)
    have g : ((400 : Int) < (n : Int)) = False := eq_false (by omega)
    have g' := eq_false hw
    simp +contextual only [g, g', ↓wA, wC, Ex.ends, evR, oneOf, top, ↓reduceIte, Nat.reduceEqDiff, Nat.reduceLeDiff, Nat.reduceAdd, Nat.reduceSub, Nat.reduceMul, reduceCtorEq, Int.reduceEq, Int.reduceLT, Int.reduceLE, Int.reduceNeg]
    exact e0.trans e1
end Go.Proofs.YtjbiefneffiogaaGreat
