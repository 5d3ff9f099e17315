/- The chapter's functions, walked by the abstract machine: plain lemmas, no condition. -/
import Derived.Test.YtjbiefneffiogaaGreatM10
set_option linter.unusedSectionVars false
set_option linter.unusedSimpArgs false
set_option linter.unusedVariables false

namespace Go.Proofs.YtjbiefneffiogaaGreat
open Go Am
inductive CoF (F : Pa → Prop) (h : Heap) : Co → List V → Prop
  | mk {k x n : Int} {s : List UInt8} {a : List At} {t : List Int} {l : List Co} {va vt vl : V} {us : List (List V)} (ha : SlV h 3 va a.length (atsV a)) (ht : SlV h 1 vt t.length (intsV t))
    (hr : roomV vl) (hl : SlV h 7 vl l.length us.flatten) (hu : us.length = l.length) (kids : ∀ (i : Nat) (c : Co) (u : List V), l[i]? = some c → us[i]? = some u → CoF F h c u)
    (fa : ∀ b, va.blk b → F b) (ft : ∀ b, vt.blk b → F b) (fl : ∀ b, vl.blk b → F b) :
    CoF F h (.mk k x n s a t l) [.int .i64 k, .int .i64 x, .int .i64 n, .str s, va, vt, vl]
theorem CoF.co {F : Pa → Prop} {h : Heap} {c : Co} {vs : List V} (H : CoF F h c vs) : CoIn h c vs := by
  induction H with
  | mk ha ht hr hl hu kids fa ft fl ih => exact .mk ha ht hr hl hu ih
theorem CoF.mod {F F' M : Pa → Prop} {h h' : Heap} (m : Mod M h h') (hM : ∀ b, F b → Old h b → ¬ M b ∧ F' b) {c : Co} {vs : List V} (H : CoF F h c vs) : CoF F' h' c vs := by
  induction H with
  | mk ha ht hr hl hu kids fa ft fl ih =>
    exact .mk (ha.mod m fun b q => (hM b (fa b q) (ha.old q)).1) (ht.mod m fun b q => (hM b (ft b q) (ht.old q)).1) hr (hl.mod m fun b q => (hM b (fl b q) (hl.old q)).1) hu ih
      (fun b q => (hM b (fa b q) (ha.old q)).2) (fun b q => (hM b (ft b q) (ht.old q)).2) (fun b q => (hM b (fl b q) (hl.old q)).2)
theorem atsV_ones : ∀ l : List At, ones (atsV l) = true
  | [] => rfl
  | a :: l => by rw [atsV]; exact ones_append rfl (atsV_ones l)
theorem flatten_snoc (us : List (List V)) (u : List V) : (us ++ [u]).flatten = us.flatten ++ u := by simp
theorem roomV_of {B : Nat} {h : Heap} {size n : Nat} {v : V} {vs : List V} (H : SlO B h size v n vs) : roomV v := by
  intro b off l c e
  exact SlV.capOf H b off l c e
set_option maxHeartbeats 2000000 in
theorem copy_ctr : ∀ (N : Nat) (c : Co), size c ≤ N → fit 1048576 c → ∀ (vs : List V) (h : Heap), CoIn h c vs →
    Ctr Tryz.prog 12 [.agg vs] h fun x h' => ∃ us, x = .agg us ∧ CoF (fun b => h.next ≤ unPa b) h' c us ∧ Ext h h'
  | 0, c, hs, _, _, _, _ => by have := size_pos c; omega
  | N + 1, c, hs, hf, vs, h, H => by
    obtain ⟨f1, f2, f3, f4, f5⟩ := hf.kids
    have hsl := size_l c
    obtain ⟨va, vt, vl, rfl, Ha, Ht, Hl⟩ := H.open
    refine c12_ctr rfl (wpK_of ?_)
    unfold c12
    have e1 : Ext h ((h.new (.ofL [.int .i64 c.k, .int .i64 c.x, .int .i64 c.n, .str c.s, va, vt, vl] 0 false)).new (.ofL [.int .i64 0, .int .i64 0, .int .i64 0, .str [], .nilslice, .nilslice, .nilslice] 0 false)) := ((Ext.refl h).new _).new _
    have g1 : ((h.new (.ofL [.int .i64 c.k, .int .i64 c.x, .int .i64 c.n, .str c.s, va, vt, vl] 0 false)).new (.ofL [.int .i64 0, .int .i64 0, .int .i64 0, .str [], .nilslice, .nilslice, .nilslice] 0 false)).get (pa h.next) = .ofL [.int .i64 c.k, .int .i64 c.x, .int .i64 c.n, .str c.s, va, vt, vl] 0 false := by
      rw [get_new, if_neg (by rw [pa_eq, next_new]; omega), get_new_self]
    have z1 : ((h.new (.ofL [.int .i64 c.k, .int .i64 c.x, .int .i64 c.n, .str c.s, va, vt, vl] 0 false)).new (.ofL [.int .i64 0, .int .i64 0, .int .i64 0, .str [], .nilslice, .nilslice, .nilslice] 0 false)).get (pa (h.next + 1)) = .ofL [.int .i64 0, .int .i64 0, .int .i64 0, .str [], .nilslice, .nilslice, .nilslice] 0 false := by
      rw [get_new, if_pos (by rw [next_new])]
    have n1 : ((h.new (.ofL [.int .i64 c.k, .int .i64 c.x, .int .i64 c.n, .str c.s, va, vt, vl] 0 false)).new (.ofL [.int .i64 0, .int .i64 0, .int .i64 0, .str [], .nilslice, .nilslice, .nilslice] 0 false)).next = h.next + 2 := by rw [next_new, next_new]
    simp +contextual only [↓wA, wC, Ex.ends, evR, oneOf, top, ↓reduceIte, Nat.reduceEqDiff, Nat.reduceLeDiff, Nat.reduceAdd, Nat.reduceSub, Nat.reduceMul, reduceCtorEq, Int.reduceEq, Int.reduceLT, Int.reduceLE, Int.reduceNeg]
    generalize ((h.new (.ofL [.int .i64 c.k, .int .i64 c.x, .int .i64 c.n, .str c.s, va, vt, vl] 0 false)).new (.ofL [.int .i64 0, .int .i64 0, .int .i64 0, .str [], .nilslice, .nilslice, .nilslice] 0 false)) = H1 at *
    have s1 : Ext H1 (H1.new (.ofL [] 0 false)) := (Ext.refl H1).new _
    obtain ⟨va', h2, p1, p2, p3, p4⟩ := app_own (B := h.next + 2) (size := 3) (by omega) (SlO.empty (h := H1) 3 (by omega)) ((Ha.ext e1).ext s1) (by rw [next_new]; omega) (by unfold top; omega) (atsV_ones c.a)
    have e2 : Ext H1 h2 := s1.mod_new p3 (fun b hb => by
      have : b = pa H1.next := hb
      rw [this, unPa_pa]; exact Nat.le_refl _)
    rw [n1] at p1
    rw [List.nil_append, Nat.zero_add] at p2
    have hn2 := e2.next
    have g2 : h2.get (pa h.next) = .ofL [.int .i64 c.k, .int .i64 c.x, .int .i64 c.n, .str c.s, va, vt, vl] 0 false := by rw [e2.get _ (old_lt (by omega))]; exact g1
    have z2 : h2.get (pa (h.next + 1)) = .ofL [.int .i64 0, .int .i64 0, .int .i64 0, .str [], .nilslice, .nilslice, .nilslice] 0 false := by rw [e2.get _ (old_lt (by omega))]; exact z1
    have o1 := p2.v.one
    have nn : (h2.next = h.next) = False := eq_false (by omega)
    simp +contextual only [g1, p1, g2, nn, o1.1, o1.2.1, ↓wA, wC, Ex.ends, evR, oneOf, top, ↓reduceIte, Nat.reduceEqDiff, Nat.reduceLeDiff, Nat.reduceAdd, Nat.reduceSub, Nat.reduceMul, reduceCtorEq, Int.reduceEq, Int.reduceLT, Int.reduceLE, Int.reduceNeg]
    have k2 : Mod (fun b => b = pa h.next) h2 (h2.set (pa h.next) (.ofL [.int .i64 c.k, .int .i64 c.x, .int .i64 c.n, .str c.s, va', vt, vl] 0 false)) := (Mod.refl (fun b => b = pa h.next) h2).set (fun _ => rfl) _
    have E2 : Ext h (h2.set (pa h.next) (.ofL [.int .i64 c.k, .int .i64 c.x, .int .i64 c.n, .str c.s, va', vt, vl] 0 false)) := (e1.trans e2).mod_new k2 (fun b hb => by rw [hb, unPa_pa]; exact Nat.le_refl _)
    have P2 : SlO (h.next + 2) (h2.set (pa h.next) (.ofL [.int .i64 c.k, .int .i64 c.x, .int .i64 c.n, .str c.s, va', vt, vl] 0 false)) 3 va' c.a.length (atsV c.a) := p2.mod k2 (fun b q e => by have := p2.base q; rw [e, unPa_pa] at this; omega)
    have G2 : (h2.set (pa h.next) (.ofL [.int .i64 c.k, .int .i64 c.x, .int .i64 c.n, .str c.s, va', vt, vl] 0 false)).get (pa h.next) = .ofL [.int .i64 c.k, .int .i64 c.x, .int .i64 c.n, .str c.s, va', vt, vl] 0 false := by rw [get_set, if_pos rfl]
    have Z2 : (h2.set (pa h.next) (.ofL [.int .i64 c.k, .int .i64 c.x, .int .i64 c.n, .str c.s, va', vt, vl] 0 false)).get (pa (h.next + 1)) = .ofL [.int .i64 0, .int .i64 0, .int .i64 0, .str [], .nilslice, .nilslice, .nilslice] 0 false := by rw [get_set, if_neg (by rw [pa_eq]; omega)]; exact z2
    have N2 : h.next + 2 ≤ (h2.set (pa h.next) (.ofL [.int .i64 c.k, .int .i64 c.x, .int .i64 c.n, .str c.s, va', vt, vl] 0 false)).next := by rw [next_set]; omega
    have N2' : (h2.set (pa h.next) (.ofL [.int .i64 c.k, .int .i64 c.x, .int .i64 c.n, .str c.s, va', vt, vl] 0 false)).next = h2.next := next_set _ _ _
    generalize (h2.set (pa h.next) (.ofL [.int .i64 c.k, .int .i64 c.x, .int .i64 c.n, .str c.s, va', vt, vl] 0 false)) = H2 at *
    clear p2 k2
    have s2 : Ext H2 (H2.new (.ofL [] 0 false)) := (Ext.refl H2).new _
    obtain ⟨vt', h3, q1, q2, q3, q4⟩ := app_own (B := H2.next) (size := 1) (by omega) (SlO.empty (h := H2) 1 (by omega)) ((Ht.ext E2).ext s2) (by rw [next_new]; omega) (by unfold top; omega) (intsV_ones c.t)
    have e3 : Ext H2 h3 := s2.mod_new q3 (fun b hb => by
      have : b = pa H2.next := hb
      rw [this, unPa_pa]; exact Nat.le_refl _)
    rw [List.nil_append, Nat.zero_add] at q2
    rw [N2'] at q1
    have hn3 := e3.next
    have g3 : h3.get (pa h.next) = .ofL [.int .i64 c.k, .int .i64 c.x, .int .i64 c.n, .str c.s, va', vt, vl] 0 false := by rw [e3.get _ (old_lt (by omega))]; exact G2
    have z3 : h3.get (pa (h.next + 1)) = .ofL [.int .i64 0, .int .i64 0, .int .i64 0, .str [], .nilslice, .nilslice, .nilslice] 0 false := by rw [e3.get _ (old_lt (by omega))]; exact Z2
    have o2 := q2.v.one
    simp +contextual only [G2, q1, g3, o2.1, o2.2.1, ↓wA, wC, Ex.ends, evR, oneOf, top, ↓reduceIte, Nat.reduceEqDiff, Nat.reduceLeDiff, Nat.reduceAdd, Nat.reduceSub, Nat.reduceMul, reduceCtorEq, Int.reduceEq, Int.reduceLT, Int.reduceLE, Int.reduceNeg]
    have k3 : Mod (fun b => b = pa h.next) h3 ((h3.set (pa h.next) (.ofL [.int .i64 c.k, .int .i64 c.x, .int .i64 c.n, .str c.s, va', vt', vl] 0 false)).set (pa h.next) (.ofL [.int .i64 c.k, .int .i64 c.x, .int .i64 c.n, .str c.s, va', vt', .nilslice] 0 false)) := ((Mod.refl (fun b => b = pa h.next) h3).set (fun _ => rfl) _).set (fun _ => rfl) _
    have E3 : Ext h ((h3.set (pa h.next) (.ofL [.int .i64 c.k, .int .i64 c.x, .int .i64 c.n, .str c.s, va', vt', vl] 0 false)).set (pa h.next) (.ofL [.int .i64 c.k, .int .i64 c.x, .int .i64 c.n, .str c.s, va', vt', .nilslice] 0 false)) := (E2.trans e3).mod_new k3 (fun b hb => by rw [hb, unPa_pa]; exact Nat.le_refl _)
    have P3 : SlO (h.next + 2) ((h3.set (pa h.next) (.ofL [.int .i64 c.k, .int .i64 c.x, .int .i64 c.n, .str c.s, va', vt', vl] 0 false)).set (pa h.next) (.ofL [.int .i64 c.k, .int .i64 c.x, .int .i64 c.n, .str c.s, va', vt', .nilslice] 0 false)) 3 va' c.a.length (atsV c.a) := (P2.ext e3).mod k3 (fun b q e => by have := P2.base q; rw [e, unPa_pa] at this; omega)
    have Q3 : SlO (h.next + 2) ((h3.set (pa h.next) (.ofL [.int .i64 c.k, .int .i64 c.x, .int .i64 c.n, .str c.s, va', vt', vl] 0 false)).set (pa h.next) (.ofL [.int .i64 c.k, .int .i64 c.x, .int .i64 c.n, .str c.s, va', vt', .nilslice] 0 false)) 1 vt' c.t.length (intsV c.t) := (q2.mono N2).mod k3 (fun b q e => by have := q2.base q; rw [e, unPa_pa] at this; omega)
    have G3 : ((h3.set (pa h.next) (.ofL [.int .i64 c.k, .int .i64 c.x, .int .i64 c.n, .str c.s, va', vt', vl] 0 false)).set (pa h.next) (.ofL [.int .i64 c.k, .int .i64 c.x, .int .i64 c.n, .str c.s, va', vt', .nilslice] 0 false)).get (pa h.next) = (.ofL [.int .i64 c.k, .int .i64 c.x, .int .i64 c.n, .str c.s, va', vt', .nilslice] 0 false) := by rw [get_set, if_pos rfl]
    have Z3 : ((h3.set (pa h.next) (.ofL [.int .i64 c.k, .int .i64 c.x, .int .i64 c.n, .str c.s, va', vt', vl] 0 false)).set (pa h.next) (.ofL [.int .i64 c.k, .int .i64 c.x, .int .i64 c.n, .str c.s, va', vt', .nilslice] 0 false)).get (pa (h.next + 1)) = .ofL [.int .i64 0, .int .i64 0, .int .i64 0, .str [], .nilslice, .nilslice, .nilslice] 0 false := by rw [get_set, if_neg (by rw [pa_eq]; omega), get_set, if_neg (by rw [pa_eq]; omega)]; exact z3
    have N3 : h.next + 2 ≤ ((h3.set (pa h.next) (.ofL [.int .i64 c.k, .int .i64 c.x, .int .i64 c.n, .str c.s, va', vt', vl] 0 false)).set (pa h.next) (.ofL [.int .i64 c.k, .int .i64 c.x, .int .i64 c.n, .str c.s, va', vt', .nilslice] 0 false)).next := by rw [next_set, next_set]; omega
    generalize ((h3.set (pa h.next) (.ofL [.int .i64 c.k, .int .i64 c.x, .int .i64 c.n, .str c.s, va', vt', vl] 0 false)).set (pa h.next) (.ofL [.int .i64 c.k, .int .i64 c.x, .int .i64 c.n, .str c.s, va', vt', .nilslice] 0 false)) = H3 at *
    refine loopK_intro (fun r g => r 1 = .ptr (pa h.next) 0 ∧ r 2 = .ptr (pa (h.next + 1)) 0 ∧ r 3 = vl ∧ ∃ (i : Nat) (w : V) (us : List (List V)), r 4 = .int .i64 i ∧ i ≤ c.l.length ∧ Ext h g ∧ h.next + 2 ≤ g.next ∧ g.get (pa h.next) = (.ofL [.int .i64 c.k, .int .i64 c.x, .int .i64 c.n, .str c.s, va', vt', w] 0 false) ∧ g.get (pa (h.next + 1)) = .ofL [.int .i64 0, .int .i64 0, .int .i64 0, .str [], .nilslice, .nilslice, .nilslice] 0 false ∧
      SlO (h.next + 2) g 3 va' c.a.length (atsV c.a) ∧ SlO (h.next + 2) g 1 vt' c.t.length (intsV c.t) ∧ (∀ b, va'.blk b ∨ vt'.blk b → ¬ w.blk b) ∧ us.length = i ∧ SlO (h.next + 2) g 7 w i us.flatten ∧
      ∀ (j : Nat) (d : Co) (u : List V), j < i → c.l[j]? = some d → us[j]? = some u → CoF (fun b => h.next + 2 ≤ unPa b ∧ ¬ w.blk b) g d u) (fun r h' => c.l.length - (r 4).toN) ?_ ?_
    · exact ⟨by simp only [↓wA, wC, ↓reduceIte, Nat.reduceEqDiff, reduceCtorEq], by simp only [↓wA, wC, ↓reduceIte, Nat.reduceEqDiff, reduceCtorEq], by simp only [↓wA, wC, ↓reduceIte, Nat.reduceEqDiff, reduceCtorEq], 0, .nilslice, [], by simp only [↓wA, wC, ↓reduceIte, Nat.reduceEqDiff, reduceCtorEq] <;> rfl, by omega, E3, N3, G3, Z3, P3, Q3, fun b _ q => q.elim, rfl, ⟨rfl, rfl⟩, fun j d u hj => by omega⟩
    · clear G3 Z3 P3 Q3 E3 N3 k3
      rintro r g ⟨r1, r2, r3, i, w, us, r4, hi, E, hn, gb, gz, Pa3, Pt3, hdis, hul, Pw, hkids⟩
      unfold c12l1
      have hL := (Hl.ext E).len
      by_cases hlt : i < c.l.length
      · have g0 : ((i : Int) < (c.l.length : Int)) = True := eq_true (by omega)
        obtain ⟨b, o, u, ia, hu, lds⟩ := Hl.atx (k := .i64) hlt
        have ld := fun g2 e => (lds g2 e).1
        have hfi : c.l[i]? = some c.l[i] := List.getElem?_eq_getElem hlt
        have hsz := size_idx hfi
        have wi := w_inc hlt (by omega)
        simp +contextual only [r1, r2, r3, r4, hL, g0, gb, ia, ld g E, ↓wA, wC, Ex.ends, evR, oneOf, top, ↓reduceIte, Nat.reduceEqDiff, Nat.reduceLeDiff, Nat.reduceAdd, Nat.reduceSub, Nat.reduceMul, reduceCtorEq, Int.reduceEq, Int.reduceLT, Int.reduceLE, Int.reduceNeg]
        refine callK_intro (copy_ctr N c.l[i] (by omega) (fits_at f5 hfi) u g (hu.ext E)) ?_
        rintro x g2 ⟨u', rfl, Hu', e2⟩
        obtain ⟨fa, ft, fl, hueq, Fa, Ft, Fl⟩ := Hu'.co.open
        have ho : ones u' = true := by rw [hueq]; simp only [ones, Fa.one.1, Ft.one.1, Fl.one.1, Bool.and_self, show ∀ (k : IntKind) (n : Int), V.one (.int k n) = true from fun _ _ => rfl, show ∀ s, V.one (.str s) = true from fun _ => rfl]
        have hul' : u'.length = 7 := by rw [hueq]; rfl
        have hn2 := e2.next
        have gb2 : g2.get (pa h.next) = (.ofL [.int .i64 c.k, .int .i64 c.x, .int .i64 c.n, .str c.s, va', vt', w] 0 false) := by rw [e2.get _ (old_lt (by omega))]; exact gb
        have gz2 : g2.get (pa (h.next + 1)) = .ofL [.int .i64 0, .int .i64 0, .int .i64 0, .str [], .nilslice, .nilslice, .nilslice] 0 false := by rw [e2.get _ (old_lt (by omega))]; exact gz
        have Pw2 := Pw.ext e2
        obtain ⟨w', g3, a1, a2, a3, a4, a5⟩ := app_one (cs := u') (by omega) Pw2 (by omega) (by unfold top; omega) hul' ho
        have ow := a2.v.one
        have bold : ∀ b, w.blk b → unPa b < g.next := fun b q => Pw.v.old q
        have b1n : ¬ w.blk (pa h.next) := fun q => by have := Pw.base q; rw [unPa_pa] at this; omega
        have b2n : ¬ w.blk (pa (h.next + 1)) := fun q => by have := Pw.base q; rw [unPa_pa] at this; omega
        have gb3 : g3.get (pa h.next) = (.ofL [.int .i64 c.k, .int .i64 c.x, .int .i64 c.n, .str c.s, va', vt', w] 0 false) := by rw [a3.get _ (old_lt (by omega)) b1n]; exact gb2
        have gz3 : g3.get (pa (h.next + 1)) = .ofL [.int .i64 0, .int .i64 0, .int .i64 0, .str [], .nilslice, .nilslice, .nilslice] 0 false := by rw [a3.get _ (old_lt (by omega)) b2n]; exact gz2
        have m4 : Mod (fun b => b = pa h.next ∨ w.blk b) g2 (g3.set (pa h.next) (.ofL [.int .i64 c.k, .int .i64 c.x, .int .i64 c.n, .str c.s, va', vt', w'] 0 false)) := (a3.mono fun b _ q => .inr q).set (fun _ => .inl rfl) _
        have m3 : Mod (fun b => b = pa h.next) g3 (g3.set (pa h.next) (.ofL [.int .i64 c.k, .int .i64 c.x, .int .i64 c.n, .str c.s, va', vt', w'] 0 false)) := (Mod.refl (fun b => b = pa h.next) g3).set (fun _ => rfl) _
        have mg : Mod (fun b => b = pa h.next ∨ w.blk b) g (g3.set (pa h.next) (.ofL [.int .i64 c.k, .int .i64 c.x, .int .i64 c.n, .str c.s, va', vt', w'] 0 false)) := (e2.mod _).trans m4
        have E4 : Ext h (g3.set (pa h.next) (.ofL [.int .i64 c.k, .int .i64 c.x, .int .i64 c.n, .str c.s, va', vt', w'] 0 false)) := E.mod_new mg (fun b q => by
          rcases q with q | q
          · rw [q, unPa_pa]; exact Nat.le_refl _
          · have := Pw.base q; omega)
        have eA : Ext g2 (g2.new (.ofL u' 0 false)) := (Ext.refl g2).new _
        have gbA : (g2.new (.ofL u' 0 false)).get (pa h.next) = (.ofL [.int .i64 c.k, .int .i64 c.x, .int .i64 c.n, .str c.s, va', vt', w] 0 false) := by rw [eA.get _ (old_lt (by omega))]; exact gb2
        have ldA := ld _ ((E.trans e2).trans eA)
        subst hueq
        simp +contextual only [r1, r2, r3, r4, hL, gb, ia, ld g E, ld g2 (E.trans e2), gb2, gb3, gbA, a1, ow.1, ow.2.1, Fa.one.1, Ft.one.1, Fl.one.1, wi, ↓wA, wC, Ex.ends, evR, oneOf, top, ↓reduceIte, Nat.reduceEqDiff, Nat.reduceLeDiff, Nat.reduceAdd, Nat.reduceSub, Nat.reduceMul, reduceCtorEq, Int.reduceEq, Int.reduceLT, Int.reduceLE, Int.reduceNeg]
        have w'n : ∀ b, unPa b < g2.next → ¬ w.blk b → ¬ w'.blk b := fun b q1 q2 q => by
          rcases a5 b q with q | q
          · exact q2 q
          · omega
        have a2' := a2.mod m3 (fun b q e => by have := a2.base q; rw [e, unPa_pa] at this; omega)
        refine ⟨⟨i + 1, w', us ++ [[.int .i64 c.l[i].k, .int .i64 c.l[i].x, .int .i64 c.l[i].n, .str c.l[i].s, fa, ft, fl]], rfl, hlt, E4, by omega, rfl, gz3, ?_, ?_, ?_, by simp [hul], ?_, ?_⟩, by omega⟩
        · exact Pa3.mod mg (fun b q e => by
            rcases e with e | e
            · have := Pa3.base q; rw [e, unPa_pa] at this; omega
            · exact hdis b (.inl q) e)
        · exact Pt3.mod mg (fun b q e => by
            rcases e with e | e
            · have := Pt3.base q; rw [e, unPa_pa] at this; omega
            · exact hdis b (.inr q) e)
        · intro b q
          have : unPa b < g.next := by
            rcases q with q | q
            · exact Pa3.v.old q
            · exact Pt3.v.old q
          exact w'n b (by omega) (hdis b q)
        · rw [flatten_snoc]; exact a2'
        · intro j d v hj q1 q2
          by_cases hji : j < i
          · rw [List.getElem?_append_left (by omega)] at q2
            refine (hkids j d v hji q1 q2).mod mg (fun b f o => ⟨fun e => ?_, f.1, w'n b (by unfold Old at o; omega) f.2⟩)
            rcases e with e | e
            · have := f.1; rw [e, unPa_pa] at this; omega
            · exact f.2 e
          · obtain rfl : j = i := by omega
            rw [List.getElem?_append_right (by omega), hul, Nat.sub_self] at q2
            simp only [List.getElem?_cons_zero, Option.some.injEq] at q2
            rw [hfi] at q1
            cases q1
            subst q2
            refine Hu'.mod m4 (fun b f o => ⟨fun e => ?_, by omega, w'n b (by unfold Old at o; omega) (fun q => by have := bold b q; omega)⟩)
            rcases e with e | e
            · rw [e, unPa_pa] at f; omega
            · have := bold b e; omega
      · have g0 : ((i : Int) < (c.l.length : Int)) = False := eq_false (by omega)
        obtain rfl : i = c.l.length := by omega
        have oa := Pa3.v.one
        have ot := Pt3.v.one
        have ow := Pw.v.one
        simp +contextual only [r1, r2, r3, r4, hL, g0, gb, gz, oa.1, ot.1, ow.1, ↓wA, wC, Ex.ends, evR, oneOf, top, ↓reduceIte, Nat.reduceEqDiff, Nat.reduceLeDiff, Nat.reduceAdd, Nat.reduceSub, Nat.reduceMul, reduceCtorEq, Int.reduceEq, Int.reduceLT, Int.reduceLE, Int.reduceNeg]
        have m5 : Mod (fun b => b = pa (h.next + 1)) g (g.set (pa (h.next + 1)) (.ofL [.int .i64 c.k, .int .i64 c.x, .int .i64 c.n, .str c.s, va', vt', w] 0 false)) := (Mod.refl (fun b => b = pa (h.next + 1)) g).set (fun _ => rfl) _
        refine ⟨_, rfl, ?_, E.mod_new m5 (fun b q => by rw [q, unPa_pa]; omega)⟩
        have key : CoF (fun b => h.next + 2 ≤ unPa b) g (.mk c.k c.x c.n c.s c.a c.t c.l) [.int .i64 c.k, .int .i64 c.x, .int .i64 c.n, .str c.s, va', vt', w] := by
          refine .mk Pa3.v Pt3.v (roomV_of Pw) Pw.v hul (fun j d u q1 q2 => ?_) (fun b q => Pa3.base q) (fun b q => Pt3.base q) (fun b q => Pw.base q)
          exact (hkids j d u (List.getElem?_eq_some_iff.1 q1).1 q1 q2).mod (Mod.refl (fun _ => False) g) (fun b f o => ⟨fun q => q, f.1⟩)
        have key2 := key.mod (F' := fun b => h.next ≤ unPa b) m5 (fun b f o => ⟨fun e => by rw [e, unPa_pa] at f; omega, by omega⟩)
        cases c
        exact key2
end Go.Proofs.YtjbiefneffiogaaGreat

namespace Go.Proofs.YtjbiefneffiogaaGreat
open Go Am
theorem sum_len : ∀ {ms : List Nat}, (∀ (i k : Nat), ms[i]? = some k → 1 ≤ k) → ms.length ≤ ms.sum
  | [], _ => Nat.le_refl _
  | m :: ms, h => by
    have h0 := h 0 m rfl
    have := sum_len (ms := ms) fun i k q => h (i + 1) k (by simpa using q)
    simp only [List.length_cons, List.sum_cons]
    omega
theorem sum_at : ∀ {ms : List Nat} {i k : Nat}, ms[i]? = some k → k ≤ ms.sum
  | [], _, _, h => by simp at h
  | m :: ms, 0, k, h => by simp only [List.getElem?_cons_zero, Option.some.injEq] at h; subst h; simp only [List.sum_cons]; omega
  | m :: ms, i + 1, k, h => by
    have := sum_at (ms := ms) (i := i) (k := k) (by simpa using h)
    simp only [List.sum_cons]; omega
theorem cells41 : Tryz.prog.cellsOf 41 = 3 := by kernel_rfl
theorem cells26 : Tryz.prog.cellsOf 26 = 7 := by kernel_rfl
theorem cells22 : Tryz.prog.cellsOf 22 = 1 := by kernel_rfl
theorem cells23 : Tryz.prog.cellsOf 23 = 1 := by kernel_rfl
theorem cells24 : Tryz.prog.cellsOf 24 = 1 := by kernel_rfl
theorem cells3 : Tryz.prog.cellsOf 3 = 1 := by kernel_rfl
theorem cells9 : Tryz.prog.cellsOf 9 = 1 := by kernel_rfl
theorem atsV_flat : ∀ l : List At, l.flatMap At.enc = atsV l
  | [] => rfl
  | a :: l => by rw [List.flatMap_cons, atsV_flat l]; rfl
theorem intsV_flat : ∀ l : List Int, l.flatMap (fun i => [V.int .i64 i]) = intsV l
  | [] => rfl
  | a :: l => by rw [List.flatMap_cons, intsV_flat l]; rfl
set_option maxRecDepth 10000 in
theorem open_at {h : Heap} {n m : Nat} {vs : List V} (H : Shp Tryz.prog h n m 41 vs) : ∃ a : At, vs = a.enc ∧ a.s.length ≤ m := by
  obtain ⟨n', rfl, hl, ms, h1, h2, h3⟩ := H.struct Tryz.underlying41
  rw [cells41] at hl
  match vs, hl with
  | [v0, v1, v2], _ =>
    have h1' : ms.length = 3 := h1
    clear h1
    match ms, h1' with
    | [m0, m1, m2], _ =>
      have f0 := (h3 0 _ _ rfl rfl).2
      have f1 := (h3 1 _ _ rfl rfl).2
      have f2 := (h3 2 _ _ rfl rfl).2
      simp only [cells3, cells9] at f0 f1 f2
      obtain ⟨i0, e0, _⟩ := f0.int Tryz.underlying3
      obtain ⟨i1, e1, _⟩ := f1.int Tryz.underlying3
      obtain ⟨s, e2, hs⟩ := f2.str Tryz.underlying9
      simp only [List.drop_zero, List.drop_succ_cons, List.take_succ_cons, List.take_zero, List.cons.injEq, and_true] at e0 e1 e2
      subst e0 e1 e2
      simp only [List.sum_cons, List.sum_nil] at h2
      exact ⟨⟨i0, i1, s⟩, rfl, by simp only; omega⟩
theorem open_ats {h : Heap} {n m : Nat} {v : V} {len : Nat} (H : Sld h 3 v len m (fun k => Shp Tryz.prog h n k 41)) : ∃ a : List At, SlV h 3 v a.length (atsV a) ∧ a.length ≤ m ∧ ∀ q ∈ a, q.s.length ≤ m := by
  obtain ⟨_, _, _, _, _, us, ms, h1, h2, h3, h4⟩ := H
  have hsum := sum_len fun i k q => (h4 i k q).1
  obtain ⟨bs, g1, g2, g3⟩ := collect At.enc 3 (fun a => a.s.length ≤ m) len us h1.1 (fun i hi => by
    obtain ⟨k, hk⟩ : ∃ k, ms[i]? = some k := ⟨_, List.getElem?_eq_getElem (by omega)⟩
    obtain ⟨a, e, q⟩ := open_at (h4 i k hk).2
    have := sum_at hk
    exact ⟨a, e, by omega⟩)
  subst g1
  rw [g2, atsV_flat] at h1
  exact ⟨bs, h1, by omega, g3⟩
theorem open_ints {h : Heap} {n m : Nat} {v : V} {len : Nat} (H : Sld h 1 v len m (fun k => Shp Tryz.prog h n k 3)) : ∃ a : List Int, SlV h 1 v a.length (intsV a) ∧ a.length ≤ m := by
  obtain ⟨_, _, _, _, _, us, ms, h1, h2, h3, h4⟩ := H
  have hsum := sum_len fun i k q => (h4 i k q).1
  obtain ⟨bs, g1, g2, g3⟩ := collect (fun i => [V.int .i64 i]) 1 (fun _ => True) len us h1.1 (fun i hi => by
    obtain ⟨k, hk⟩ : ∃ k, ms[i]? = some k := ⟨_, List.getElem?_eq_getElem (by omega)⟩
    obtain ⟨a, e, q⟩ := (h4 i k hk).2.int Tryz.underlying3
    exact ⟨a, e, trivial⟩)
  subst g1
  rw [g2, intsV_flat] at h1
  exact ⟨bs, h1, by omega⟩
theorem fits_of_all {m : Nat} : ∀ {l : List Co}, (∀ c ∈ l, fit m c) → fits m l
  | [], _ => trivial
  | c :: cs, h => ⟨h c (by simp), fits_of_all fun d hd => h d (by simp [hd])⟩
theorem fit.up {m m' : Nat} (h : m ≤ m') : ∀ c : Co, fit m c → fit m' c := by
  have both : ∀ N, (∀ c : Co, size c ≤ N → fit m c → fit m' c) := by
    intro N
    induction N with
    | zero => intro c hs; have := size_pos c; omega
    | succ N ih =>
      rintro ⟨k, x, n, s, a, t, l⟩ hs ⟨h1, h2, h3, h4, h5, h6⟩
      refine ⟨by omega, by omega, by omega, by omega, fun q hq => Nat.le_trans (h5 q hq) h, fits_of_all fun d hd => ?_⟩
      obtain ⟨i, hi⟩ := List.getElem?_of_mem hd
      refine ih d ?_ (fits_at h6 hi)
      have := size_mem hd
      simp only [size] at hs
      omega
  exact fun c => both (size c) c (Nat.le_refl _)
set_option maxRecDepth 10000 in
theorem open_core : ∀ (n : Nat) {m : Nat} {h : Heap} {vs : List V}, Shp Tryz.prog h n m 26 vs → ∃ c, CoIn h c vs ∧ fit m c
  | 0, m, h, vs, H => H.elim
  | n + 1, m, h, vs, H => by
    obtain ⟨n', e, hl, ms, h1, h2, h3⟩ := H.struct Tryz.underlying26
    obtain rfl : n = n' := by omega
    rw [cells26] at hl
    match vs, hl with
    | [v0, v1, v2, v3, v4, v5, v6], _ =>
      have h1' : ms.length = 7 := h1
      clear h1
      match ms, h1' with
      | [m0, m1, m2, m3, m4, m5, m6], _ =>
        have f0 := (h3 0 _ _ rfl rfl).2
        have f1 := (h3 1 _ _ rfl rfl).2
        have f2 := (h3 2 _ _ rfl rfl).2
        have f3 := (h3 3 _ _ rfl rfl).2
        have f4 := (h3 4 _ _ rfl rfl).2
        have f5 := (h3 5 _ _ rfl rfl).2
        have f6 := (h3 6 _ _ rfl rfl).2
        simp only [cells3, cells9, cells22, cells23, cells24] at f0 f1 f2 f3 f4 f5 f6
        obtain ⟨i0, e0, _⟩ := f0.int Tryz.underlying3
        obtain ⟨i1, e1, _⟩ := f1.int Tryz.underlying3
        obtain ⟨i2, e2, _⟩ := f2.int Tryz.underlying3
        obtain ⟨s, e3, hs⟩ := f3.str Tryz.underlying9
        obtain ⟨n4, w4, l4, r4, e4, S4⟩ := f4.slice Tryz.underlying22 (by rw [cells41]; decide)
        obtain ⟨n5, w5, l5, r5, e5, S5⟩ := f5.slice Tryz.underlying23 (by rw [cells3]; decide)
        obtain ⟨n6, w6, l6, r6, e6, S6⟩ := f6.slice Tryz.underlying24 (by rw [cells26]; decide)
        simp only [List.drop_zero, List.drop_succ_cons, List.take_succ_cons, List.take_zero, List.cons.injEq, and_true] at e0 e1 e2 e3 e4 e5 e6
        subst e0 e1 e2 e3 e4 e5 e6
        simp only [List.sum_cons, List.sum_nil] at h2
        rw [cells41] at S4
        rw [cells3] at S5
        rw [cells26] at S6
        obtain ⟨a, Ha, ha1, ha2⟩ := open_ats S4
        obtain ⟨t, Ht, ht1⟩ := open_ints S5
        obtain ⟨_, _, _, _, hr, us, ks, k1, k2, k3, k4⟩ := S6
        have hsum := sum_len fun i k q => (k4 i k q).1
        obtain ⟨ps, g1, g2, g3⟩ := collect (α := Co × List V) Prod.snd 7 (fun p => CoIn h p.1 p.2 ∧ fit m p.1) l6 us k1.1 (fun i hi => by
          obtain ⟨k, hk⟩ : ∃ k, ks[i]? = some k := ⟨_, List.getElem?_eq_getElem (by omega)⟩
          have hsh := (k4 i k hk).2
          obtain rfl : n = n6 + 1 := r6
          obtain ⟨c, hc1, hc2⟩ := open_core n6 hsh
          have := sum_at hk
          exact ⟨(c, _), rfl, hc1, fit.up (by omega) c hc2⟩)
        refine ⟨.mk i0 i1 i2 s a t (ps.map Prod.fst), .mk Ha Ht hr (us := ps.map Prod.snd) ?_ (by simp) ?_, ⟨by omega, by omega, by omega, by rw [List.length_map]; omega, fun q hq => by have := ha2 q hq; omega, fits_of_all ?_⟩⟩
        · rw [List.length_map, g1, ← List.flatMap_def, ← g2]
          exact k1
        · intro i c u q1 q2
          rw [List.getElem?_map] at q1 q2
          cases hp : ps[i]? with
          | none => rw [hp] at q1; cases q1
          | some p =>
            rw [hp] at q1 q2
            simp only [Option.map_some, Option.some.injEq] at q1 q2
            subst q1 q2
            exact (g3 p (List.mem_of_getElem? hp)).1
        · intro c hc
          obtain ⟨p, hp, rfl⟩ := List.mem_map.1 hc
          exact (g3 p hp).2
end Go.Proofs.YtjbiefneffiogaaGreat

namespace Go.Proofs.YtjbiefneffiogaaGreat
open Go Am
theorem awake_run : Am.truly ctx 100000 11 [] = true := by kernel_rfl
theorem awake_ctr (h : Heap) : Ctr Tryz.prog 11 [] h fun x h' => x = .bool true ∧ h' = h :=
  ⟨_, _, closed_callsV (fun E x hx => by simpa only [Rel] using hx) ⟨_, Tryz.func11, by kernel_rfl⟩ (fun w hw => truly_sound (C := ctx) follows namesOk hw primOk awake_run) h, rfl, rfl⟩
structure Bx (A B : Nat) (vs us : List V) (g : Heap) : Prop where
  na : A < g.next
  nb : B < g.next
  a : g.get (pa A) = .ofL vs 0 false
  b : g.get (pa B) = .ofL us 0 false
theorem Bx.ext {A B : Nat} {vs us : List V} {g g' : Heap} (H : Bx A B vs us g) (e : Ext g g') : Bx A B vs us g' :=
  ⟨Nat.lt_of_lt_of_le H.na e.next, Nat.lt_of_lt_of_le H.nb e.next, by rw [e.get _ (old_lt H.na)]; exact H.a, by rw [e.get _ (old_lt H.nb)]; exact H.b⟩
end Go.Proofs.YtjbiefneffiogaaGreat

namespace Go.Proofs.YtjbiefneffiogaaGreat
open Go Am
def reA (f : Int → Int) (q : At) : At := if q.k = 1 then ⟨q.k, f q.n, q.s⟩ else q
def bindsX (k : Int) : Bool := decide (k = 2) || decide (k = 11) || decide (k = 7)
def Co.setN : Co → Int → Co
  | .mk k x _ s a t l, n => .mk k x n s a t l
mutual
def reC (f : Int → Int) : Co → Co
  | .mk k x n s a t l => .mk k (if bindsX k then f x else x) n s (a.map (reA f)) t (reCs f (decide (k = 8)) l)
def reCs (f : Int → Int) (rc : Bool) : List Co → List Co
  | [] => []
  | c :: cs => (if rc && !cs.isEmpty then (reC f c).setN (f c.n) else reC f c) :: reCs f rc cs
end
theorem reCs_len (f : Int → Int) (rc : Bool) : ∀ l : List Co, (reCs f rc l).length = l.length
  | [] => by simp [reCs]
  | c :: cs => by simp [reCs, reCs_len f rc cs]
theorem reCs_at (f : Int → Int) (rc : Bool) : ∀ (l : List Co) (i : Nat) (c : Co), l[i]? = some c → (reCs f rc l)[i]? = some (if (rc && decide (i + 1 < l.length)) = true then (reC f c).setN (f c.n) else reC f c)
  | [], _, _, h => by simp at h
  | d :: l, 0, c, h => by
    simp only [List.getElem?_cons_zero, Option.some.injEq] at h
    subst h
    simp only [reCs, List.getElem?_cons_zero, List.length_cons]
    have : (!l.isEmpty) = decide (0 + 1 < l.length + 1) := by cases l <;> simp
    rw [this]
  | d :: l, i + 1, c, h => by
    have := reCs_at f rc l i c (by simpa using h)
    simp only [reCs, List.getElem?_cons_succ, this, List.length_cons, Nat.add_lt_add_iff_right]
mutual
def used : Co → List Int
  | .mk k x n s a t l => (if bindsX k then [x] else []) ++ (a.filter fun q => decide (q.k = 1)).map At.n ++ useds (decide (k = 8)) l
def useds (rc : Bool) : List Co → List Int
  | [] => []
  | c :: cs => (if rc && !cs.isEmpty then [c.n] else []) ++ used c ++ useds rc cs
end
mutual
theorem reC_congr {f g : Int → Int} : ∀ (c : Co), (∀ z ∈ used c, f z = g z) → reC f c = reC g c
  | .mk k x n s a t l, h => by
    simp only [used, List.mem_append] at h
    have h1 : (if bindsX k then f x else x) = (if bindsX k then g x else x) := by
      by_cases hb : bindsX k = true
      · rw [if_pos hb, if_pos hb]; exact h x (.inl (.inl (by rw [if_pos hb]; simp)))
      · rw [if_neg hb, if_neg hb]
    have h2 : a.map (reA f) = a.map (reA g) := by
      apply List.map_congr_left
      intro q hq
      unfold reA
      by_cases hk : q.k = 1
      · rw [if_pos hk, if_pos hk, h q.n (.inl (.inr (List.mem_map_of_mem (List.mem_filter.2 ⟨hq, by simpa using hk⟩))))]
      · rw [if_neg hk, if_neg hk]
    simp only [reC, h1, h2, reCs_congr (decide (k = 8)) l fun z hz => h z (.inr hz)]
theorem reCs_congr {f g : Int → Int} (rc : Bool) : ∀ (l : List Co), (∀ z ∈ useds rc l, f z = g z) → reCs f rc l = reCs g rc l
  | [], _ => rfl
  | c :: cs, h => by
    simp only [useds, List.mem_append] at h
    have h1 := reC_congr c fun z hz => h z (.inl (.inr hz))
    have h2 := reCs_congr rc cs fun z hz => h z (.inr hz)
    simp only [reCs, h1, h2]
    by_cases hc : (rc && !cs.isEmpty) = true
    · rw [if_pos hc, if_pos hc, h c.n (.inl (.inl (by rw [if_pos hc]; simp)))]
    · rw [if_neg hc, if_neg hc]
end
mutual
theorem used_bound : ∀ (c : Co) (b : List Int), okC c → free c b = [] → ∀ z ∈ used c, z ∈ b ∨ z ∈ order c
  | .mk k x n s a t l, b, hok, h, z, hz => by
    simp only [free, List.append_eq_nil_iff] at h
    simp only [used, List.mem_append] at hz
    obtain ⟨_, _, o3, o4⟩ := hok
    rcases hz with (hz | hz) | hz
    · right
      by_cases hb : bindsX k = true
      · rw [if_pos hb, List.mem_singleton] at hz
        subst hz
        simp only [order, List.mem_append]
        by_cases h7 : k = 7
        · left; rw [ownNames, if_pos h7]; simp
        · right
          have hlate : lateB k = true := by
            simp only [bindsX, Bool.or_eq_true, decide_eq_true_eq] at hb
            simp only [lateB, Bool.or_eq_true, decide_eq_true_eq]
            omega
          have hl2 := o3 hlate
          rw [hlate, orders_two hl2]
          simp
      · rw [if_neg hb] at hz; cases hz
    · left
      obtain ⟨q, q1, rfl⟩ := List.mem_map.1 hz
      obtain ⟨q2, q3⟩ := List.mem_filter.1 q1
      have q3 : q.k = 1 := by simpa using q3
      refine Decidable.byContradiction fun hn => ?_
      have : q.n ∈ usedA b a := by
        unfold usedA
        exact List.mem_map_of_mem (List.mem_filter.2 ⟨q2, by simp [q3, hn]⟩)
      rw [h.1] at this
      cases this
    · simp only [order, List.mem_append]
      rcases used_bounds l (decide (k = 8)) (lateB k) x (b ++ ownNames k x l) 0 o4 h.2 z hz with q | q | ⟨q1, q2⟩
      · rcases List.mem_append.1 q with q | q
        · exact .inl q
        · exact .inr (.inl q)
      · exact .inr (.inr q)
      · have h8 : k = 8 := by simpa using q1
        right; left
        rw [ownNames, if_neg (by omega), if_pos h8]
        exact q2
theorem used_bounds : ∀ (l : List Co) (rc late : Bool) (x : Int) (b : List Int) (i : Nat), oks l → frees late x l b i = [] → ∀ z ∈ useds rc l, z ∈ b ∨ z ∈ orders late x l i ∨ (rc = true ∧ z ∈ l.dropLast.map Co.n)
  | [], _, _, _, _, _, _, _, z, hz => by simp [useds] at hz
  | c :: cs, rc, late, x, b, i, hok, h, z, hz => by
    simp only [frees, List.append_eq_nil_iff] at h
    simp only [useds, List.mem_append] at hz
    simp only [orders, List.mem_append]
    rcases hz with (hz | hz) | hz
    · by_cases hc : (rc && !cs.isEmpty) = true
      · rw [if_pos hc, List.mem_singleton] at hz
        subst hz
        simp only [Bool.and_eq_true] at hc
        right; right
        refine ⟨hc.1, ?_⟩
        cases cs with
        | nil => simp at hc
        | cons d cs => simp
      · rw [if_neg hc] at hz; cases hz
    · rcases used_bound c _ hok.1 h.1 z hz with q | q
      · by_cases hl : (late && i == 1) = true
        · rw [if_pos hl] at q
          rcases List.mem_append.1 q with q | q
          · exact .inl q
          · right; left; left; left
            rw [if_pos hl]; exact q
        · rw [if_neg hl] at q
          exact .inl q
      · exact .inr (.inl (.inl (.inr q)))
    · rcases used_bounds cs rc late x b (i + 1) hok.2 h.2 z hz with q | q | ⟨q1, q2⟩
      · exact .inl q
      · exact .inr (.inl (.inr q))
      · refine .inr (.inr ⟨q1, ?_⟩)
        cases cs with
        | nil => simp at q2
        | cons d cs => simp only [List.dropLast_cons_cons, List.map_cons, List.mem_cons] at q2 ⊢; exact .inr q2
end
def placeL (l : List Int) (n : Int) : Int := match l.findIdx? (fun m => decide (m = n)) with
  | some i => i
  | none => -1
end Go.Proofs.YtjbiefneffiogaaGreat

namespace Go.Proofs.YtjbiefneffiogaaGreat
open Go Am
theorem clone_ctr (t : List Int) (v : V) (h : Heap) (H : SlV h 1 v t.length (intsV t)) (hl : t.length ≤ 1048576) :
    Ctr Tryz.prog 75 [v] h fun x h' => NewS h h' t x := by
  by_cases hv : v = .nilslice
  · subst hv
    have : t = [] := List.eq_nil_of_length_eq_zero H.2
    subst this
    refine c75_ctr rfl (wpK_of ?_)
    unfold c75
    simp +contextual only [show (BK.eqn false 2).run Tryz.prog .nilslice .nilslice = some (.bool true) from rfl, ↓wA, wC, Ex.ends, evR, oneOf, top, ↓reduceIte, Nat.reduceEqDiff, Nat.reduceLeDiff, Nat.reduceAdd, Nat.reduceSub, Nat.reduceMul, reduceCtorEq, Int.reduceEq, Int.reduceLT, Int.reduceLE, Int.reduceNeg]
    exact NewS.nil h
  · have hq : (BK.eqn false 2).run Tryz.prog v .nilslice = some (.bool false) := by
      have h2 := H.2
      cases v <;> simp only at h2 <;> first | exact absurd rfl hv | rfl | exact h2.elim
    refine c75_ctr rfl (wpK_of ?_)
    unfold c75
    have es : Ext h (h.new (.ofL [] 0 false)) := (Ext.refl h).new _
    obtain ⟨wv, g2, p1, p2, p3, p4⟩ := app_own (B := h.next) (Nat.le_refl 1) (SlO.empty (h := h) 1 (Nat.le_refl _)) (H.ext es) (by rw [next_new]; omega) (by unfold top; omega) (intsV_ones _)
    have e2 : Ext h g2 := es.mod_new p3 (fun b hb => by
      have : b = pa h.next := hb
      rw [this, unPa_pa]; exact Nat.le_refl _)
    rw [List.nil_append, Nat.zero_add] at p2
    simp +contextual only [hq, p1, ↓wA, wC, Ex.ends, evR, oneOf, top, ↓reduceIte, Nat.reduceEqDiff, Nat.reduceLeDiff, Nat.reduceAdd, Nat.reduceSub, Nat.reduceMul, reduceCtorEq, Int.reduceEq, Int.reduceLT, Int.reduceLE, Int.reduceNeg]
    exact ⟨p2, e2⟩
theorem placeL_cons (m n : Int) (l : List Int) : placeL (m :: l) n = if m = n then 0 else if placeL l n = -1 then -1 else placeL l n + 1 := by
  unfold placeL
  rw [List.findIdx?_cons]
  by_cases h : m = n
  · simp [h]
  · simp only [h, decide_false, if_false, Bool.false_eq_true]
    cases l.findIdx? (fun m => decide (m = n)) with
    | none => simp
    | some i => simp
theorem place_ctr (l : List Int) (n : Int) (v : V) (h : Heap) (H : SlV h 1 v l.length (intsV l)) (hl : l.length ≤ 4611686018427387904) :
    Ctr Tryz.prog 76 [v, .int .i64 n] h fun x h' => x = .int .i64 (placeL l n) ∧ h' = h := by
  refine c76_ctr rfl (wpK_of ?_)
  unfold c76
  simp +contextual only [↓wA, wC, Ex.ends, evR, oneOf, top, ↓reduceIte, Nat.reduceEqDiff, Nat.reduceLeDiff, Nat.reduceAdd, Nat.reduceSub, Nat.reduceMul, reduceCtorEq, Int.reduceEq, Int.reduceLT, Int.reduceLE, Int.reduceNeg]
  refine loopK_intro (fun r h' => h' = h ∧ r 0 = v ∧ r 1 = .int .i64 n ∧ ∃ i : Nat, r 5 = .int .i64 i ∧ i ≤ l.length ∧ placeL l n = if placeL (l.drop i) n = -1 then -1 else placeL (l.drop i) n + i) (fun r h' => l.length - (r 5).toN) ?_ ?_
  · exact ⟨rfl, by simp only [↓wA, wC, ↓reduceIte, Nat.reduceEqDiff, reduceCtorEq], by simp only [↓wA, wC, ↓reduceIte, Nat.reduceEqDiff, reduceCtorEq], 0, by simp only [↓wA, wC, ↓reduceIte, Nat.reduceEqDiff, reduceCtorEq] <;> rfl, by omega, by rw [List.drop_zero]; split <;> omega⟩
  · rintro r h' ⟨rfl, r0, r1, i, r5, hi, hok⟩
    unfold c76l1
    have hL := H.len
    by_cases hlt : i < l.length
    · have g0 : ((i : Int) < (l.length : Int)) = True := eq_true (by omega)
      obtain ⟨b, o, ia, ld⟩ := ints_at H (k := .i64) hlt
      rw [List.drop_eq_getElem_cons hlt, placeL_cons] at hok
      have w := w_inc hlt hl
      by_cases hc : l[i] = n
      · have e := eq_true hc
        simp +contextual only [r0, r1, r5, hL, g0, ia, ld, e, ↓wA, wC, Ex.ends, evR, oneOf, top, ↓reduceIte, Nat.reduceEqDiff, Nat.reduceLeDiff, Nat.reduceAdd, Nat.reduceSub, Nat.reduceMul, reduceCtorEq, Int.reduceEq, Int.reduceLT, Int.reduceLE, Int.reduceNeg]
        rw [hok, if_pos hc]
        simp
      · have e := eq_false hc
        rw [if_neg hc] at hok
        simp +contextual only [r0, r1, r5, hL, g0, ia, ld, e, w, ↓wA, wC, Ex.ends, evR, oneOf, top, ↓reduceIte, Nat.reduceEqDiff, Nat.reduceLeDiff, Nat.reduceAdd, Nat.reduceSub, Nat.reduceMul, reduceCtorEq, Int.reduceEq, Int.reduceLT, Int.reduceLE, Int.reduceNeg]
        refine ⟨⟨i + 1, rfl, hlt, ?_⟩, by omega⟩
        rw [hok]
        by_cases hp : placeL (l.drop (i + 1)) n = -1
        · rw [if_pos hp, if_pos hp, if_pos rfl]
        · rw [if_neg hp, if_neg hp]
          have hge : 0 ≤ placeL (l.drop (i + 1)) n := by
            unfold placeL at hp ⊢
            split <;> simp_all
          rw [if_neg (by omega)]
          omega
    · have g0 : ((i : Int) < (l.length : Int)) = False := eq_false (by omega)
      rw [List.drop_eq_nil_of_le (by omega)] at hok
      simp +contextual only [r0, r1, r5, hL, g0, ↓wA, wC, Ex.ends, evR, oneOf, top, ↓reduceIte, Nat.reduceEqDiff, Nat.reduceLeDiff, Nat.reduceAdd, Nat.reduceSub, Nat.reduceMul, reduceCtorEq, Int.reduceEq, Int.reduceLT, Int.reduceLE, Int.reduceNeg]
      rw [hok]
      rfl
end Go.Proofs.YtjbiefneffiogaaGreat

namespace Go.Proofs.YtjbiefneffiogaaGreat
open Go Am
inductive CoS (h : Heap) : (Pa → Prop) → Co → List V → Prop
  | mk {F : Pa → Prop} {k x n : Int} {s : List UInt8} {a : List At} {t : List Int} {l : List Co} {va vt vl : V} {us : List (List V)} (G : Nat → Pa → Prop) (ha : SlO 0 h 3 va a.length (atsV a)) (ht : SlO 0 h 1 vt t.length (intsV t))
    (hl : SlO 0 h 7 vl l.length us.flatten) (hu : us.length = l.length) (kids : ∀ (i : Nat) (c : Co) (u : List V), l[i]? = some c → us[i]? = some u → CoS h (G i) c u)
    (fa : ∀ b, va.blk b → F b) (ft : ∀ b, vt.blk b → F b) (fl : ∀ b, vl.blk b → F b) (fk : ∀ i b, i < l.length → G i b → F b ∧ ¬ vl.blk b ∧ ¬ va.blk b ∧ ¬ vt.blk b)
    (dl : ∀ b, vl.blk b → ¬ va.blk b ∧ ¬ vt.blk b) (da : ∀ b, vt.blk b → ¬ va.blk b) (dk : ∀ i j b, i < l.length → j < l.length → i ≠ j → G i b → ¬ G j b) :
    CoS h F (.mk k x n s a t l) [.int .i64 k, .int .i64 x, .int .i64 n, .str s, va, vt, vl]
theorem CoS.co {F : Pa → Prop} {h : Heap} {c : Co} {vs : List V} (H : CoS h F c vs) : CoIn h c vs := by
  induction H with
  | mk G ha ht hl hu kids fa ft fl fk dl da dk ih => exact .mk ha.v ht.v (roomV_of hl) hl.v hu ih
theorem CoS.weak {F F' : Pa → Prop} {h : Heap} {c : Co} {vs : List V} (H : CoS h F c vs) (hF : ∀ b, F b → F' b) : CoS h F' c vs := by
  cases H with
  | mk G ha ht hl hu kids fa ft fl fk dl da dk => exact .mk G ha ht hl hu kids (fun b q => hF b (fa b q)) (fun b q => hF b (ft b q)) (fun b q => hF b (fl b q)) (fun i b hi q => ⟨hF b (fk i b hi q).1, (fk i b hi q).2⟩) dl da dk
theorem CoS.mod {F M : Pa → Prop} {h h' : Heap} (m : Mod M h h') {c : Co} {vs : List V} (H : CoS h F c vs) (hM : ∀ b, F b → ¬ M b) : CoS h' F c vs := by
  induction H with
  | mk G ha ht hl hu kids fa ft fl fk dl da dk ih =>
    exact .mk G (ha.mod m fun b q => hM b (fa b q)) (ht.mod m fun b q => hM b (ft b q)) (hl.mod m fun b q => hM b (fl b q)) hu
      (fun i c u q1 q2 => ih i c u q1 q2 fun b g => hM b (fk i b (List.getElem?_eq_some_iff.1 q1).1 g).1) fa ft fl fk dl da dk
theorem CoS.old {F : Pa → Prop} {h : Heap} {c : Co} {vs : List V} (H : CoS h F c vs) : CoS h (fun b => F b ∧ Old h b) c vs := by
  induction H with
  | mk G ha ht hl hu kids fa ft fl fk dl da dk ih =>
    exact .mk (fun i b => G i b ∧ Old h b) ha ht hl hu ih (fun b q => ⟨fa b q, ha.v.old q⟩) (fun b q => ⟨ft b q, ht.v.old q⟩) (fun b q => ⟨fl b q, hl.v.old q⟩)
      (fun i b hi q => ⟨⟨(fk i b hi q.1).1, q.2⟩, (fk i b hi q.1).2⟩) dl da (fun i j b hi hj hij q1 q2 => dk i j b hi hj hij q1.1 q2.1)
end Go.Proofs.YtjbiefneffiogaaGreat

namespace Go.Proofs.YtjbiefneffiogaaGreat
open Go Am
theorem reC_n (f : Int → Int) (c : Co) : (reC f c).n = c.n := by cases c; rfl
theorem CoS.open {F : Pa → Prop} {h : Heap} {c : Co} {vs : List V} (H : CoS h F c vs) : ∃ va vt vl, vs = [.int .i64 c.k, .int .i64 c.x, .int .i64 c.n, .str c.s, va, vt, vl] ∧ va.one = true ∧ vt.one = true ∧ vl.one = true ∧
    ∀ n, CoS h F (c.setN n) [.int .i64 c.k, .int .i64 c.x, .int .i64 n, .str c.s, va, vt, vl] := by
  cases H with
  | mk G ha ht hl hu kids fa ft fl fk dl da dk => exact ⟨_, _, _, rfl, ha.v.one.1, ht.v.one.1, hl.v.one.1, fun n => .mk G ha ht hl hu kids fa ft fl fk dl da dk⟩
structure ToS (h : Heap) (pm mm : Pa) (f : Int → Int) : Prop where
  om : Old h pm
  omm : Old h mm
  hpm : h.get pm = .ofL [.map mm] 0 false
  cnt : CntIn h mm f
theorem ToS.ext {h h' : Heap} {pm mm : Pa} {f : Int → Int} (T : ToS h pm mm f) (e : Ext h h') : ToS h' pm mm f :=
  ⟨e.old T.om, e.old T.omm, by rw [e.get _ T.om]; exact T.hpm, T.cnt.mod (e.get _ T.omm) fun _ => rfl⟩
theorem to_ctr {h : Heap} {pm mm : Pa} {f : Int → Int} (T : ToS h pm mm f) (n : Int) : Ctr Tryz.prog 56 [.int .i64 n, .ptr pm 0] h fun x h' => x = .int .i64 (f n) ∧ h' = h := by
  refine c56_ctr rfl (wpK_of ?_)
  unfold c56
  have lk := T.cnt.look n
  simp +contextual only [T.hpm, lk, ↓wA, wC, Ex.ends, evR, oneOf, top, ↓reduceIte, Nat.reduceEqDiff, Nat.reduceLeDiff, Nat.reduceAdd, Nat.reduceSub, Nat.reduceMul, reduceCtorEq, Int.reduceEq, Int.reduceLT, Int.reduceLE, Int.reduceNeg]
structure MapS (h : Heap) (bx : List V) (c : Co) (x' : Int) (vt' : V) (g : Heap) (wa wl : V) : Prop where
  ext : Ext h g
  n : h.next + 3 ≤ g.next
  b2 : g.get (pa h.next) = .ofL bx 0 false
  b4 : g.get (pa (h.next + 1)) = .ofL [.int .i64 0, .int .i64 0, .int .i64 0, .str [], .nilslice, .nilslice, .nilslice] 0 false
  b5 : g.get (pa (h.next + 2)) = .ofL [.int .i64 c.k, .int .i64 x', .int .i64 c.n, .str c.s, wa, vt', wl] 0 false
  pt : SlO (h.next + 3) g 1 vt' c.t.length (intsV c.t)
  dt : ∀ b, vt'.blk b → ¬ wa.blk b ∧ ¬ wl.blk b
theorem MapS.keep {h : Heap} {bx : List V} {c : Co} {x' : Int} {vt' wa wl : V} {g g' : Heap} (S : MapS h bx c x' vt' g wa wl) (e : Ext g g') : MapS h bx c x' vt' g' wa wl :=
  ⟨S.ext.trans e, Nat.le_trans S.n e.next, by rw [e.get _ (old_lt (by have := S.n; omega))]; exact S.b2, by rw [e.get _ (old_lt (by have := S.n; omega))]; exact S.b4, by rw [e.get _ (old_lt (by have := S.n; omega))]; exact S.b5, S.pt.ext e, S.dt⟩
set_option maxHeartbeats 2000000 in
theorem mapA {h : Heap} {bx : List V} {c : Co} {x' : Int} {vt' va vt vl : V} {pm mm : Pa} {f : Int → Int} (T : ToS h pm mm f) (Ha : SlV h 3 va c.a.length (atsV c.a)) (hl : c.a.length ≤ 1048576) (g : Heap) (r : RF) (ks : List KS) (Q : Ex → RF → Heap → Prop) (S : MapS h bx c x' vt' g .nilslice .nilslice)
    (q1 : r 1 = .func 56 [.ptr pm 0]) (q2 : r 2 = .ptr (pa h.next) 0) (q4 : r 4 = .ptr (pa (h.next + 1)) 0) (q5 : r 5 = .ptr (pa (h.next + 2)) 0) (q35 : r 35 = va) (q36 : r 36 = .int .i64 c.a.length) (q37 : r 37 = .int .i64 0)
    (hK : ∀ g' wa r', MapS h bx c x' vt' g' wa .nilslice → SlO (h.next + 3) g' 3 wa (c.a.map (reA f)).length (atsV (c.a.map (reA f))) → r' 1 = .func 56 [.ptr pm 0] → r' 2 = .ptr (pa h.next) 0 → r' 4 = .ptr (pa (h.next + 1)) 0 → r' 5 = .ptr (pa (h.next + 2)) 0 → wpK Tryz.prog ks (.exit 1) r' g' Q) : loopK Tryz.prog c55l1 ks r g Q := by
  refine loopK_intro (fun r g => r 1 = .func 56 [.ptr pm 0] ∧ r 2 = .ptr (pa h.next) 0 ∧ r 4 = .ptr (pa (h.next + 1)) 0 ∧ r 5 = .ptr (pa (h.next + 2)) 0 ∧ r 35 = va ∧ r 36 = .int .i64 c.a.length ∧ ∃ (i : Nat) (wa : V), r 37 = .int .i64 i ∧ i ≤ c.a.length ∧ MapS h bx c x' vt' g wa .nilslice ∧ SlO (h.next + 3) g 3 wa i (atsV ((c.a.take i).map (reA f)))) (fun r h' => c.a.length - (r 37).toN) ?_ ?_
  · exact ⟨q1, q2, q4, q5, q35, q36, 0, .nilslice, by rw [q37]; rfl, by omega, S, ⟨rfl, rfl⟩⟩
  · clear q1 q2 q4 q5 q35 q36 q37 S
    rintro r g ⟨r1, r2, r4, r5, r35, r36, i, wa, r37, hi, S, Pw⟩
    unfold c55l1
    by_cases hlt : i < c.a.length
    · have g0 : ((i : Int) < (c.a.length : Int)) = True := eq_true (by omega)
      obtain ⟨b, o, ia, ld⟩ := ats_atx Ha (k := .i64) hlt S.ext
      have wi := w_inc hlt (by omega)
      have htk : (c.a.take (i + 1)).map (reA f) = (c.a.take i).map (reA f) ++ [reA f c.a[i]] := by rw [List.take_add_one, List.getElem?_eq_getElem hlt, List.map_append]; rfl
      generalize c.a[i] = q at *
      have hn := S.n
      have nb2 : (g.next = h.next) = False := eq_false (by omega)
      have nb5 : (g.next = h.next + 2) = False := eq_false (by omega)
      have nb5' : (h.next + 2 = g.next) = False := eq_false (by omega)
      have step : ∀ (q' : At) (H1 : Heap), Ext g H1 → reA f q = q' → ∃ w' g3, appV 3 wa (.slice (pa H1.next) 0 1 1) (H1.new (.ofL [.int .i64 q'.k, .int .i64 q'.n, .str q'.s] 0 false)) = .val w' g3 ∧ w'.one = true ∧ w'.cells = [w'] ∧ g3.get (pa (h.next + 2)) = .ofL [.int .i64 c.k, .int .i64 x', .int .i64 c.n, .str c.s, wa, vt', .nilslice] 0 false ∧
          MapS h bx c x' vt' (g3.set (pa (h.next + 2)) (.ofL [.int .i64 c.k, .int .i64 x', .int .i64 c.n, .str c.s, w', vt', .nilslice] 0 false)) w' .nilslice ∧
          SlO (h.next + 3) (g3.set (pa (h.next + 2)) (.ofL [.int .i64 c.k, .int .i64 x', .int .i64 c.n, .str c.s, w', vt', .nilslice] 0 false)) 3 w' (i + 1) (atsV ((c.a.take (i + 1)).map (reA f))) := by
        intro q' H1 e1 hq
        have S1 := S.keep e1
        have hn1 := S1.n
        obtain ⟨w', g3, a1, a2, a3, a4, a5⟩ := app_one (cs := [.int .i64 q'.k, .int .i64 q'.n, .str q'.s]) (by omega) (Pw.ext e1) S1.n (by unfold top; omega) rfl rfl
        have nw : ∀ k, k < h.next + 3 → ¬ wa.blk (pa k) := fun k hk q => by have := Pw.base q; rw [unPa_pa] at this; omega
        have gb5 : g3.get (pa (h.next + 2)) = .ofL [.int .i64 c.k, .int .i64 x', .int .i64 c.n, .str c.s, wa, vt', .nilslice] 0 false := by rw [a3.get _ (old_lt (by omega)) (nw _ (by omega))]; exact S1.b5
        have m3 : Mod (fun b => b = pa (h.next + 2)) g3 (g3.set (pa (h.next + 2)) (.ofL [.int .i64 c.k, .int .i64 x', .int .i64 c.n, .str c.s, w', vt', .nilslice] 0 false)) := (Mod.refl (fun b => b = pa (h.next + 2)) g3).set (fun _ => rfl) _
        have m4 : Mod (fun b => b = pa (h.next + 2) ∨ wa.blk b) H1 (g3.set (pa (h.next + 2)) (.ofL [.int .i64 c.k, .int .i64 x', .int .i64 c.n, .str c.s, w', vt', .nilslice] 0 false)) := (a3.mono fun b _ q => .inr q).set (fun _ => .inl rfl) _
        have hext : Ext h (g3.set (pa (h.next + 2)) (.ofL [.int .i64 c.k, .int .i64 x', .int .i64 c.n, .str c.s, w', vt', .nilslice] 0 false)) := S1.ext.mod_new m4 (fun b q => by
          rcases q with q | q
          · rw [q, unPa_pa]; omega
          · have := Pw.base q; omega)
        refine ⟨w', g3, a1, a2.v.one.1, a2.v.one.2.1, gb5, ⟨hext, by rw [next_set]; omega, ?_, ?_, by rw [get_set, if_pos rfl], ?_, fun b q => ⟨fun q' => ?_, fun q' => q'.elim⟩⟩, ?_⟩
        · rw [get_set, if_neg (by rw [pa_eq]; omega), a3.get _ (old_lt (by omega)) (nw _ (by omega))]; exact S1.b2
        · rw [get_set, if_neg (by rw [pa_eq]; omega), a3.get _ (old_lt (by omega)) (nw _ (by omega))]; exact S1.b4
        · exact S1.pt.mod m4 (fun b q e => by
            rcases e with e | e
            · have := S1.pt.base q; rw [e, unPa_pa] at this; omega
            · exact (S1.dt b q).1 e)
        · have ho : unPa b < H1.next := S1.pt.v.old q
          rcases a5 b q' with q' | q'
          · exact (S1.dt b q).1 q'
          · omega
        · rw [htk, hq]
          have e : atsV ((c.a.take i).map (reA f) ++ [q']) = atsV ((c.a.take i).map (reA f)) ++ [.int .i64 q'.k, .int .i64 q'.n, .str q'.s] := by
            rw [← atsV_flat, List.flatMap_append, atsV_flat]; rfl
          rw [e]
          exact a2.mod m3 (fun b q e => by have := a2.base q; rw [e, unPa_pa] at this; omega)
      by_cases hq : q.k = 1
      · have eq := eq_true hq
        have e1 : Ext g ((g.new (.ofL [.int .i64 0, .int .i64 0, .str []] 0 false)).set (pa g.next) (.ofL [.int .i64 q.k, .int .i64 q.n, .str q.s] 0 false)) := ((Ext.refl g).new _).set (Nat.le_refl _) _
        have e2 : Ext g (((g.new (.ofL [.int .i64 0, .int .i64 0, .str []] 0 false)).set (pa g.next) (.ofL [.int .i64 q.k, .int .i64 q.n, .str q.s] 0 false)).set (pa g.next) (.ofL [.int .i64 q.k, .int .i64 (f q.n), .str q.s] 0 false)) := e1.set (Nat.le_refl _) _
        obtain ⟨w', g3, t1, t2, t3, t4, t5, t6⟩ := step ⟨q.k, f q.n, q.s⟩ _ e2 (by rw [reA, if_pos hq])
        rw [next_set, next_set, next_new] at t1
        simp +contextual only [r1, r2, r4, r5, r35, r36, r37, g0, ia, ld, eq, ↓wA, wC, Ex.ends, evR, oneOf, top, ↓reduceIte, Nat.reduceEqDiff, Nat.reduceLeDiff, Nat.reduceAdd, Nat.reduceSub, Nat.reduceMul, reduceCtorEq, Int.reduceEq, Int.reduceLT, Int.reduceLE, Int.reduceNeg]
        refine callK_intro (to_ctr (T.ext (S.ext.trans e1)) q.n) ?_
        rintro x h2 ⟨rfl, rfl⟩
        simp +contextual only [r1, r2, r4, r5, r35, r36, r37, nb5, nb5', S.b5, t1, t2, t3, t4, wi, ↓wA, wC, Ex.ends, evR, oneOf, top, ↓reduceIte, Nat.reduceEqDiff, Nat.reduceLeDiff, Nat.reduceAdd, Nat.reduceSub, Nat.reduceMul, reduceCtorEq, Int.reduceEq, Int.reduceLT, Int.reduceLE, Int.reduceNeg]
        exact ⟨⟨i + 1, w', rfl, hlt, t5, t6⟩, by omega⟩
      · have eq := eq_false hq
        have e1 : Ext g ((g.new (.ofL [.int .i64 0, .int .i64 0, .str []] 0 false)).set (pa g.next) (.ofL [.int .i64 q.k, .int .i64 q.n, .str q.s] 0 false)) := ((Ext.refl g).new _).set (Nat.le_refl _) _
        obtain ⟨w', g3, t1, t2, t3, t4, t5, t6⟩ := step q _ e1 (by rw [reA, if_neg hq])
        rw [next_set, next_new] at t1
        simp +contextual only [r1, r2, r4, r5, r35, r36, r37, g0, ia, ld, eq, nb5, nb5', S.b5, t1, t2, t3, t4, wi, ↓wA, wC, Ex.ends, evR, oneOf, top, ↓reduceIte, Nat.reduceEqDiff, Nat.reduceLeDiff, Nat.reduceAdd, Nat.reduceSub, Nat.reduceMul, reduceCtorEq, Int.reduceEq, Int.reduceLT, Int.reduceLE, Int.reduceNeg]
        exact ⟨⟨i + 1, w', rfl, hlt, t5, t6⟩, by omega⟩
    · have g0 : ((i : Int) < (c.a.length : Int)) = False := eq_false (by omega)
      obtain rfl : i = c.a.length := by omega
      rw [List.take_length] at Pw
      simp +contextual only [r1, r2, r4, r5, r35, r36, r37, g0, ↓wA, wC, Ex.ends, evR, oneOf, top, ↓reduceIte, Nat.reduceEqDiff, Nat.reduceLeDiff, Nat.reduceAdd, Nat.reduceSub, Nat.reduceMul, reduceCtorEq, Int.reduceEq, Int.reduceLT, Int.reduceLE, Int.reduceNeg]
      exact hK _ wa _ S (by rw [List.length_map]; exact Pw) (by simp only [r1, ↓wA, wC, ↓reduceIte, Nat.reduceEqDiff, reduceCtorEq]) (by simp only [r2, ↓wA, wC, ↓reduceIte, Nat.reduceEqDiff, reduceCtorEq]) (by simp only [r4, ↓wA, wC, ↓reduceIte, Nat.reduceEqDiff, reduceCtorEq]) (by simp only [r5, ↓wA, wC, ↓reduceIte, Nat.reduceEqDiff, reduceCtorEq])
end Go.Proofs.YtjbiefneffiogaaGreat

namespace Go.Proofs.YtjbiefneffiogaaGreat
open Go Am
set_option maxHeartbeats 4000000 in
theorem mapB {h : Heap} {c : Co} {x' : Int} {vt' va vt vl wa : V} {pm mm : Pa} {f : Int → Int} (T : ToS h pm mm f) (Hl : CosIn h c.l vl) (hl : c.l.length ≤ 1048576) (g : Heap) (r : RF) (ks : List KS) (Q : Ex → RF → Heap → Prop) (S : MapS h [.int .i64 c.k, .int .i64 c.x, .int .i64 c.n, .str c.s, va, vt, vl] c x' vt' g wa .nilslice)
    (Pa0 : SlO (h.next + 3) g 3 wa (c.a.map (reA f)).length (atsV (c.a.map (reA f))))
    (kid : ∀ (i : Nat) (d : Co) (u : List V) (g : Heap), c.l[i]? = some d → CoIn g d u → Ext h g → Ctr Tryz.prog 55 [.agg u, .func 56 [.ptr pm 0]] g fun x h' => ∃ us, x = .agg us ∧ CoS h' (fun b => g.next ≤ unPa b) (reC f d) us ∧ Ext g h')
    (q1 : r 1 = .func 56 [.ptr pm 0]) (q2 : r 2 = .ptr (pa h.next) 0) (q4 : r 4 = .ptr (pa (h.next + 1)) 0) (q5 : r 5 = .ptr (pa (h.next + 2)) 0) (q57 : r 57 = vl) (q58 : r 58 = .int .i64 c.l.length) (q59 : r 59 = .int .i64 0)
    (hK : ∀ g' wl (us : List (List V)) (G : Nat → Pa → Prop) r', MapS h [.int .i64 c.k, .int .i64 c.x, .int .i64 c.n, .str c.s, va, vt, vl] c x' vt' g' wa wl → SlO (h.next + 3) g' 3 wa (c.a.map (reA f)).length (atsV (c.a.map (reA f))) → SlO (h.next + 3) g' 7 wl c.l.length us.flatten → us.length = c.l.length → (∀ b, wl.blk b → ¬ wa.blk b) →
      (∀ (j : Nat) (d : Co) (u : List V), (reCs f (decide (c.k = 8)) c.l)[j]? = some d → us[j]? = some u → CoS g' (G j) d u) → (∀ j b, j < c.l.length → G j b → h.next + 3 ≤ unPa b ∧ ¬ wl.blk b ∧ ¬ wa.blk b ∧ ¬ vt'.blk b) → (∀ i j b, i < c.l.length → j < c.l.length → i ≠ j → G i b → ¬ G j b) →
      r' 4 = .ptr (pa (h.next + 1)) 0 → r' 5 = .ptr (pa (h.next + 2)) 0 → wpK Tryz.prog ks (.exit 3) r' g' Q) : loopK Tryz.prog c55l2 ks r g Q := by
  obtain ⟨rc, hrc⟩ : ∃ rc, rc = decide (c.k = 8) := ⟨_, rfl⟩
  rw [← hrc] at hK
  refine loopK_intro (fun r g => r 1 = .func 56 [.ptr pm 0] ∧ r 2 = .ptr (pa h.next) 0 ∧ r 4 = .ptr (pa (h.next + 1)) 0 ∧ r 5 = .ptr (pa (h.next + 2)) 0 ∧ r 57 = vl ∧ r 58 = .int .i64 c.l.length ∧ ∃ (i : Nat) (wl : V) (us : List (List V)) (G : Nat → Pa → Prop), r 59 = .int .i64 i ∧ i ≤ c.l.length ∧ MapS h [.int .i64 c.k, .int .i64 c.x, .int .i64 c.n, .str c.s, va, vt, vl] c x' vt' g wa wl ∧
    SlO (h.next + 3) g 3 wa (c.a.map (reA f)).length (atsV (c.a.map (reA f))) ∧ SlO (h.next + 3) g 7 wl i us.flatten ∧ us.length = i ∧ (∀ b, wl.blk b → ¬ wa.blk b) ∧
    (∀ (j : Nat) (d : Co) (u : List V), j < i → (reCs f rc c.l)[j]? = some d → us[j]? = some u → CoS g (G j) d u) ∧ (∀ j b, j < i → G j b → h.next + 3 ≤ unPa b ∧ unPa b < g.next ∧ ¬ wl.blk b ∧ ¬ wa.blk b ∧ ¬ vt'.blk b) ∧ (∀ i' j b, i' < i → j < i → i' ≠ j → G i' b → ¬ G j b)) (fun r h' => c.l.length - (r 59).toN) ?_ ?_
  · exact ⟨q1, q2, q4, q5, q57, q58, 0, .nilslice, [], fun _ _ => False, by rw [q59]; rfl, by omega, S, Pa0, ⟨rfl, rfl⟩, rfl, fun b q => q.elim, fun j d u hj => by omega, fun j b hj => by omega, fun i' j b hi' => by omega⟩
  · clear q1 q2 q4 q5 q57 q58 q59 S Pa0
    rintro r g ⟨r1, r2, r4, r5, r57, r58, i, wl, us, G, r59, hi, S, Pa0, Pw, hul, hdw, hk, hG, hGd⟩
    unfold c55l2
    by_cases hlt : i < c.l.length
    · have g0 : ((i : Int) < (c.l.length : Int)) = True := eq_true (by omega)
      obtain ⟨b, o, u, ia, hu, lds⟩ := Hl.atx (k := .i64) hlt
      have ld := (lds g S.ext).1
      have wi := w_inc hlt (by omega)
      have hfi : c.l[i]? = some c.l[i] := List.getElem?_eq_getElem hlt
      have hre := reCs_at f rc c.l i _ hfi
      have hL := fun g (e : Ext h g) => (Hl.ext e).len
      generalize hfd : c.l[i] = d at *
      obtain ⟨ea, et, el, rfl, Fa, Ft, Fl⟩ := hu.open
      have o1 := Fa.one.1
      have o2 := Ft.one.1
      have o3 := Fl.one.1
      have hn := S.n
      have nb2 : (g.next = h.next) = False := eq_false (by omega)
      have nb5 : (g.next = h.next + 2) = False := eq_false (by omega)
      have nb5' : (h.next + 2 = g.next) = False := eq_false (by omega)
      have e1 : Ext g ((g.new (.ofL [.int .i64 0, .int .i64 0, .int .i64 0, .str [], .nilslice, .nilslice, .nilslice] 0 false)).set (pa g.next) (.ofL [.int .i64 d.k, .int .i64 d.x, .int .i64 d.n, .str d.s, ea, et, el] 0 false)) := ((Ext.refl g).new _).set (Nat.le_refl _) _
      have gn1 : ((g.new (.ofL [.int .i64 0, .int .i64 0, .int .i64 0, .str [], .nilslice, .nilslice, .nilslice] 0 false)).set (pa g.next) (.ofL [.int .i64 d.k, .int .i64 d.x, .int .i64 d.n, .str d.s, ea, et, el] 0 false)).next = g.next + 1 := by rw [next_set, next_new]
      have gb1 : ((g.new (.ofL [.int .i64 0, .int .i64 0, .int .i64 0, .str [], .nilslice, .nilslice, .nilslice] 0 false)).set (pa g.next) (.ofL [.int .i64 d.k, .int .i64 d.x, .int .i64 d.n, .str d.s, ea, et, el] 0 false)).get (pa g.next) = .ofL [.int .i64 d.k, .int .i64 d.x, .int .i64 d.n, .str d.s, ea, et, el] 0 false := by rw [get_set, if_pos rfl]
      simp +contextual only [r1, r2, r4, r5, r57, r58, r59, g0, ia, ld, o1, o2, o3, ↓wA, wC, Ex.ends, evR, oneOf, top, ↓reduceIte, Nat.reduceEqDiff, Nat.reduceLeDiff, Nat.reduceAdd, Nat.reduceSub, Nat.reduceMul, reduceCtorEq, Int.reduceEq, Int.reduceLT, Int.reduceLE, Int.reduceNeg]
      generalize ((g.new (.ofL [.int .i64 0, .int .i64 0, .int .i64 0, .str [], .nilslice, .nilslice, .nilslice] 0 false)).set (pa g.next) (.ofL [.int .i64 d.k, .int .i64 d.x, .int .i64 d.n, .str d.s, ea, et, el] 0 false)) = H1 at *
      have S1 := S.keep e1
      refine callK_intro (kid i d _ H1 hfi (hu.ext S1.ext) S1.ext) ?_
      rintro x g2 ⟨u', rfl, Hu', e2⟩
      have S2 := S1.keep e2
      have hn2 := e2.next
      obtain ⟨fa, ft, fl, rfl, p1, p2, p3, Hn⟩ := Hu'.old.open
      have hcs := Hu'.old
      rw [reC_n] at *
      have gb2 : g2.get (pa g.next) = .ofL [.int .i64 d.k, .int .i64 d.x, .int .i64 d.n, .str d.s, ea, et, el] 0 false := by rw [e2.get _ (old_lt (by omega))]; exact gb1
      have step : ∀ (n' : Int) (d' : Co) (H2 : Heap), Ext g2 H2 ∨ Mod (fun b => b = pa g.next) g2 H2 → H2.next = g2.next → (reCs f rc c.l)[i]? = some d' → CoS g2 (fun b => H1.next ≤ unPa b ∧ Old g2 b) d' [.int .i64 (reC f d).k, .int .i64 (reC f d).x, .int .i64 n', .str (reC f d).s, fa, ft, fl] →
          ∃ w' g3, appV 7 wl (.slice (pa H2.next) 0 1 1) (H2.new (.ofL [.int .i64 (reC f d).k, .int .i64 (reC f d).x, .int .i64 n', .str (reC f d).s, fa, ft, fl] 0 false)) = .val w' g3 ∧ w'.one = true ∧ w'.cells = [w'] ∧ g3.get (pa (h.next + 2)) = .ofL [.int .i64 c.k, .int .i64 x', .int .i64 c.n, .str c.s, wa, vt', wl] 0 false ∧
            ∃ (us' : List (List V)) (G' : Nat → Pa → Prop), MapS h [.int .i64 c.k, .int .i64 c.x, .int .i64 c.n, .str c.s, va, vt, vl] c x' vt' (g3.set (pa (h.next + 2)) (.ofL [.int .i64 c.k, .int .i64 x', .int .i64 c.n, .str c.s, wa, vt', w'] 0 false)) wa w' ∧
            SlO (h.next + 3) (g3.set (pa (h.next + 2)) (.ofL [.int .i64 c.k, .int .i64 x', .int .i64 c.n, .str c.s, wa, vt', w'] 0 false)) 3 wa (c.a.map (reA f)).length (atsV (c.a.map (reA f))) ∧ SlO (h.next + 3) (g3.set (pa (h.next + 2)) (.ofL [.int .i64 c.k, .int .i64 x', .int .i64 c.n, .str c.s, wa, vt', w'] 0 false)) 7 w' (i + 1) us'.flatten ∧ us'.length = i + 1 ∧ (∀ b, w'.blk b → ¬ wa.blk b) ∧
            (∀ (j : Nat) (d : Co) (u : List V), j < i + 1 → (reCs f rc c.l)[j]? = some d → us'[j]? = some u → CoS (g3.set (pa (h.next + 2)) (.ofL [.int .i64 c.k, .int .i64 x', .int .i64 c.n, .str c.s, wa, vt', w'] 0 false)) (G' j) d u) ∧
            (∀ j b, j < i + 1 → G' j b → h.next + 3 ≤ unPa b ∧ unPa b < (g3.set (pa (h.next + 2)) (.ofL [.int .i64 c.k, .int .i64 x', .int .i64 c.n, .str c.s, wa, vt', w'] 0 false)).next ∧ ¬ w'.blk b ∧ ¬ wa.blk b ∧ ¬ vt'.blk b) ∧ (∀ i' j b, i' < i + 1 → j < i + 1 → i' ≠ j → G' i' b → ¬ G' j b) := by
        intro n' d' H2 hme hnx hd' hcs'
        have m2 : Mod (fun b => b = pa g.next) g2 H2 := by
          rcases hme with e | m
          · exact e.mod _
          · exact m
        have eg : Ext g H2 := (e1.trans e2).mod_new m2 (fun b q => by rw [q, unPa_pa]; exact Nat.le_refl _)
        have S3 := S.keep eg
        have hn3 := S3.n
        obtain ⟨w', g3, a1, a2, a3, a4, a5⟩ := app_one (cs := [.int .i64 (reC f d).k, .int .i64 (reC f d).x, .int .i64 n', .str (reC f d).s, fa, ft, fl]) (by omega) (Pw.ext eg) S3.n (by unfold top; omega) rfl (by simp only [ones, p1, p2, p3, Bool.and_self, show ∀ (k : IntKind) (n : Int), V.one (.int k n) = true from fun _ _ => rfl, show ∀ s, V.one (.str s) = true from fun _ => rfl])
        have nw : ∀ k, k < h.next + 3 → ¬ wl.blk (pa k) := fun k hk q => by have := Pw.base q; rw [unPa_pa] at this; omega
        have wold : ∀ b, wl.blk b → unPa b < g.next := fun b q => Pw.v.old q
        have gb5 : g3.get (pa (h.next + 2)) = .ofL [.int .i64 c.k, .int .i64 x', .int .i64 c.n, .str c.s, wa, vt', wl] 0 false := by rw [a3.get _ (old_lt (by omega)) (nw _ (by omega))]; exact S3.b5
        have m3 : Mod (fun b => b = pa (h.next + 2)) g3 (g3.set (pa (h.next + 2)) (.ofL [.int .i64 c.k, .int .i64 x', .int .i64 c.n, .str c.s, wa, vt', w'] 0 false)) := (Mod.refl (fun b => b = pa (h.next + 2)) g3).set (fun _ => rfl) _
        have m4 : Mod (fun b => b = pa (h.next + 2) ∨ wl.blk b) H2 (g3.set (pa (h.next + 2)) (.ofL [.int .i64 c.k, .int .i64 x', .int .i64 c.n, .str c.s, wa, vt', w'] 0 false)) := (a3.mono fun b _ q => .inr q).set (fun _ => .inl rfl) _
        have hext : Ext h (g3.set (pa (h.next + 2)) (.ofL [.int .i64 c.k, .int .i64 x', .int .i64 c.n, .str c.s, wa, vt', w'] 0 false)) := S3.ext.mod_new m4 (fun b q => by
          rcases q with q | q
          · rw [q, unPa_pa]; omega
          · have := Pw.base q; omega)
        have nw' : ∀ b, unPa b < H2.next → ¬ wl.blk b → ¬ w'.blk b := fun b q1 q2 q => by
          rcases a5 b q with q | q
          · exact q2 q
          · omega
        refine ⟨w', g3, a1, a2.v.one.1, a2.v.one.2.1, gb5, us ++ [[.int .i64 (reC f d).k, .int .i64 (reC f d).x, .int .i64 n', .str (reC f d).s, fa, ft, fl]], fun j b => if j = i then (H1.next ≤ unPa b ∧ Old g2 b) else G j b,
          ⟨hext, by rw [next_set]; omega, ?_, ?_, by rw [get_set, if_pos rfl], ?_, fun b q => ⟨(S3.dt b q).1, ?_⟩⟩, ?_, ?_, by simp [hul], ?_, ?_, ?_, ?_⟩
        · rw [get_set, if_neg (by rw [pa_eq]; omega), a3.get _ (old_lt (by omega)) (nw _ (by omega))]; exact S3.b2
        · rw [get_set, if_neg (by rw [pa_eq]; omega), a3.get _ (old_lt (by omega)) (nw _ (by omega))]; exact S3.b4
        · exact S3.pt.mod m4 (fun b q e => by
            rcases e with e | e
            · have := S3.pt.base q; rw [e, unPa_pa] at this; omega
            · exact (S3.dt b q).2 e)
        · exact nw' b (S3.pt.v.old q) (S3.dt b q).2
        · exact (Pa0.ext eg).mod m4 (fun b q e => by
            rcases e with e | e
            · have := Pa0.base q; rw [e, unPa_pa] at this; omega
            · exact hdw b e q)
        · rw [flatten_snoc]
          exact a2.mod m3 (fun b q e => by have := a2.base q; rw [e, unPa_pa] at this; omega)
        · intro b q q'
          have : unPa b < g.next := Pa0.v.old q'
          have := eg.next
          exact nw' b (by omega) (fun q => hdw b q q') q
        · intro j d'' v hj z1 z2
          by_cases hji : j < i
          · rw [List.getElem?_append_left (by omega)] at z2
            simp only [if_neg (show ¬ j = i by omega)]
            refine ((hk j d'' v hji z1 z2).mod (eg.mod fun _ => False) (fun b _ q => q)).mod m4 (fun b f e => ?_)
            obtain ⟨y1, y2, y3, y4⟩ := hG j b hji f
            rcases e with e | e
            · rw [e, unPa_pa] at y1; omega
            · exact y3 e
          · obtain rfl : j = i := by omega
            rw [List.getElem?_append_right (by omega), hul, Nat.sub_self] at z2
            simp only [List.getElem?_cons_zero, Option.some.injEq] at z2
            rw [hd'] at z1
            cases z1
            subst z2
            simp only [if_pos]
            refine (hcs'.mod m2 (fun b f e => by rw [e, unPa_pa] at f; omega)).mod m4 (fun b f e => ?_)
            rcases e with e | e
            · have := f.1; rw [e, unPa_pa] at this; omega
            · have := wold b e; omega
        · intro j b hj q
          have hnn := m4.next
          by_cases hji : j = i
          · simp only [if_pos hji] at q
            have := q.2
            unfold Old at this
            exact ⟨by omega, by omega, nw' b (by omega) (fun q' => by have := wold b q'; omega), fun q' => by have : unPa b < g.next := Pa0.v.old q'; have := e1.next; omega, fun q' => by have : unPa b < g.next := S.pt.v.old q'; have := e1.next; omega⟩
          · simp only [if_neg hji] at q
            obtain ⟨y1, y2, y3, y4⟩ := hG j b (by omega) q
            have := eg.next
            exact ⟨y1, by omega, nw' b (by omega) y3, y4⟩
        · intro i' j b hi' hj hij q q'
          by_cases h1 : i' = i
          · simp only [if_pos h1] at q
            have h2 : ¬ j = i := by omega
            simp only [if_neg h2] at q'
            obtain ⟨y1, y2, y3, y4⟩ := hG j b (by omega) q'
            omega
          · simp only [if_neg h1] at q
            by_cases h2 : j = i
            · simp only [if_pos h2] at q'
              obtain ⟨y1, y2, y3, y4⟩ := hG i' b (by omega) q
              omega
            · simp only [if_neg h2] at q'
              exact hGd i' j b (by omega) (by omega) hij q q'
      have m1 : Mod (fun b => b = pa g.next) g2 (g2.set (pa g.next) (.ofL [.int .i64 (reC f d).k, .int .i64 (reC f d).x, .int .i64 d.n, .str (reC f d).s, fa, ft, fl] 0 false)) := (Mod.refl (fun b => b = pa g.next) g2).set (fun _ => rfl) _
      have m2 : Mod (fun b => b = pa g.next) g2 ((g2.set (pa g.next) (.ofL [.int .i64 (reC f d).k, .int .i64 (reC f d).x, .int .i64 d.n, .str (reC f d).s, fa, ft, fl] 0 false)).set (pa g.next) (.ofL [.int .i64 (reC f d).k, .int .i64 (reC f d).x, .int .i64 (f d.n), .str (reC f d).s, fa, ft, fl] 0 false)) := m1.set (fun _ => rfl) _
      have eb : Ext h (g2.set (pa g.next) (.ofL [.int .i64 (reC f d).k, .int .i64 (reC f d).x, .int .i64 d.n, .str (reC f d).s, fa, ft, fl] 0 false)) := S2.ext.mod_new m1 (fun b q => by rw [q, unPa_pa]; omega)
      have LL := hL _ eb
      by_cases h8 : c.k = 8 ∧ i + 1 < c.l.length
      · have e8 := eq_true h8.1
        have w0 : IntKind.i64.wrap ((c.l.length : Int) - 1) = ((c.l.length - 1 : Nat) : Int) := by rw [wrap_i64 (by omega) (by omega)]; omega
        have g1 : ((i : Int) < ((c.l.length - 1 : Nat) : Int)) = True := eq_true (by omega)
        rw [if_pos (by rw [hrc]; simp [h8.1, h8.2])] at hre
        obtain ⟨w', g3, t1, t2, t3, t4, us', G', t5⟩ := step (f d.n) _ _ (.inr m2) (by rw [next_set, next_set]) hre (Hn (f d.n))
        rw [next_set, next_set] at t1
        simp +contextual only [r1, r2, r4, r5, r57, r58, r59, nb2, nb5, nb5', gb2, S2.b2, S2.b5, p1, p2, p3, e8, LL, w0, g1, ↓wA, wC, Ex.ends, evR, oneOf, top, ↓reduceIte, Nat.reduceEqDiff, Nat.reduceLeDiff, Nat.reduceAdd, Nat.reduceSub, Nat.reduceMul, reduceCtorEq, Int.reduceEq, Int.reduceLT, Int.reduceLE, Int.reduceNeg]
        refine callK_intro (to_ctr (T.ext eb) d.n) ?_
        rintro x h2 ⟨rfl, rfl⟩
        simp +contextual only [r1, r2, r4, r5, r57, r58, r59, nb2, nb5, nb5', gb2, S2.b2, S2.b5, t1, t2, t3, t4, wi, ↓wA, wC, Ex.ends, evR, oneOf, top, ↓reduceIte, Nat.reduceEqDiff, Nat.reduceLeDiff, Nat.reduceAdd, Nat.reduceSub, Nat.reduceMul, reduceCtorEq, Int.reduceEq, Int.reduceLT, Int.reduceLE, Int.reduceNeg]
        exact ⟨⟨i + 1, w', us', G', rfl, hlt, t5⟩, by omega⟩
      · rw [if_neg (by rw [hrc]; simpa using h8)] at hre
        obtain ⟨w', g3, t1, t2, t3, t4, us', G', t5⟩ := step d.n _ _ (.inr m1) (by rw [next_set]) hre hcs
        rw [next_set] at t1
        by_cases h8' : c.k = 8
        · have e8 := eq_true h8'
          have w0 : IntKind.i64.wrap ((c.l.length : Int) - 1) = ((c.l.length - 1 : Nat) : Int) := by rw [wrap_i64 (by omega) (by omega)]; omega
          have g1 : ((i : Int) < ((c.l.length - 1 : Nat) : Int)) = False := eq_false (by omega)
          simp +contextual only [r1, r2, r4, r5, r57, r58, r59, nb2, nb5, nb5', gb2, S2.b2, S2.b5, p1, p2, p3, e8, LL, w0, g1, t1, t2, t3, t4, wi, ↓wA, wC, Ex.ends, evR, oneOf, top, ↓reduceIte, Nat.reduceEqDiff, Nat.reduceLeDiff, Nat.reduceAdd, Nat.reduceSub, Nat.reduceMul, reduceCtorEq, Int.reduceEq, Int.reduceLT, Int.reduceLE, Int.reduceNeg]
          exact ⟨⟨i + 1, w', us', G', rfl, hlt, t5⟩, by omega⟩
        · have e8 := eq_false h8'
          simp +contextual only [r1, r2, r4, r5, r57, r58, r59, nb2, nb5, nb5', gb2, S2.b2, S2.b5, p1, p2, p3, e8, LL, t1, t2, t3, t4, wi, ↓wA, wC, Ex.ends, evR, oneOf, top, ↓reduceIte, Nat.reduceEqDiff, Nat.reduceLeDiff, Nat.reduceAdd, Nat.reduceSub, Nat.reduceMul, reduceCtorEq, Int.reduceEq, Int.reduceLT, Int.reduceLE, Int.reduceNeg]
          exact ⟨⟨i + 1, w', us', G', rfl, hlt, t5⟩, by omega⟩
    · have g0 : ((i : Int) < (c.l.length : Int)) = False := eq_false (by omega)
      obtain rfl : i = c.l.length := by omega
      simp +contextual only [r1, r2, r4, r5, r57, r58, r59, g0, ↓wA, wC, Ex.ends, evR, oneOf, top, ↓reduceIte, Nat.reduceEqDiff, Nat.reduceLeDiff, Nat.reduceAdd, Nat.reduceSub, Nat.reduceMul, reduceCtorEq, Int.reduceEq, Int.reduceLT, Int.reduceLE, Int.reduceNeg]
      exact hK _ wl us G _ S Pa0 Pw hul hdw (fun j d u z1 z2 => hk j d u (by have := (List.getElem?_eq_some_iff.1 z1).1; rw [reCs_len] at this; exact this) z1 z2) (fun j b hj q => ⟨(hG j b hj q).1, (hG j b hj q).2.2⟩) hGd (by simp only [r4, ↓wA, wC, ↓reduceIte, Nat.reduceEqDiff, reduceCtorEq]) (by simp only [r5, ↓wA, wC, ↓reduceIte, Nat.reduceEqDiff, reduceCtorEq])
end Go.Proofs.YtjbiefneffiogaaGreat

namespace Go.Proofs.YtjbiefneffiogaaGreat
open Go Am
set_option maxHeartbeats 4000000 in
theorem map_ctr : ∀ (N : Nat) (c : Co), size c ≤ N → fit 1048576 c → okC c → ∀ (vs : List V) (h : Heap), CoIn h c vs → ∀ (pm mm : Pa) (f : Int → Int), ToS h pm mm f →
    Ctr Tryz.prog 55 [.agg vs, .func 56 [.ptr pm 0]] h fun x h' => ∃ us, x = .agg us ∧ CoS h' (fun b => h.next ≤ unPa b) (reC f c) us ∧ Ext h h'
  | 0, c, hs, _, _, _, _, _, _, _, _, _ => by have := size_pos c; omega
  | N + 1, c, hs, hf, hok, vs, h, H, pm, mm, f, T => by
    obtain ⟨f1, f2, f3, f4, f5⟩ := hf.kids
    have hsl := size_l c
    obtain ⟨va, vt, vl, rfl, Ha, Ht, Hl⟩ := H.open
    have hok' : (c.k = 8 → 1 ≤ c.l.length) ∧ c.k ≠ 14 ∧ (lateB c.k = true → c.l.length = 2) ∧ oks c.l := by cases c; exact hok
    obtain ⟨k1, k2, k3, k4⟩ := hok'
    have kid : ∀ (i : Nat) (d : Co) (u : List V) (g : Heap), c.l[i]? = some d → CoIn g d u → Ext h g → Ctr Tryz.prog 55 [.agg u, .func 56 [.ptr pm 0]] g fun x h' => ∃ us, x = .agg us ∧ CoS h' (fun b => g.next ≤ unPa b) (reC f d) us ∧ Ext g h' :=
      fun i d u g hi hu hg => map_ctr N d (by have := size_idx hi; omega) (fits_at f5 hi) (oks_at k4 hi) u g hu pm mm f (T.ext hg)
    refine c55_ctr rfl (wpK_of ?_)
    unfold c55
    have e1 : Ext h (((h.new (.ofL [.int .i64 c.k, .int .i64 c.x, .int .i64 c.n, .str c.s, va, vt, vl] 0 false)).new (.ofL [.int .i64 0, .int .i64 0, .int .i64 0, .str [], .nilslice, .nilslice, .nilslice] 0 false)).new (.ofL [.int .i64 0, .int .i64 0, .int .i64 0, .str [], .nilslice, .nilslice, .nilslice] 0 false)) := (((Ext.refl h).new _).new _).new _
    have g1 : (((h.new (.ofL [.int .i64 c.k, .int .i64 c.x, .int .i64 c.n, .str c.s, va, vt, vl] 0 false)).new (.ofL [.int .i64 0, .int .i64 0, .int .i64 0, .str [], .nilslice, .nilslice, .nilslice] 0 false)).new (.ofL [.int .i64 0, .int .i64 0, .int .i64 0, .str [], .nilslice, .nilslice, .nilslice] 0 false)).get (pa h.next) = (.ofL [.int .i64 c.k, .int .i64 c.x, .int .i64 c.n, .str c.s, va, vt, vl] 0 false) := by
      rw [get_new, if_neg (by rw [pa_eq, next_new, next_new]; omega), get_new, if_neg (by rw [pa_eq, next_new]; omega), get_new_self]
    have z1 : (((h.new (.ofL [.int .i64 c.k, .int .i64 c.x, .int .i64 c.n, .str c.s, va, vt, vl] 0 false)).new (.ofL [.int .i64 0, .int .i64 0, .int .i64 0, .str [], .nilslice, .nilslice, .nilslice] 0 false)).new (.ofL [.int .i64 0, .int .i64 0, .int .i64 0, .str [], .nilslice, .nilslice, .nilslice] 0 false)).get (pa (h.next + 1)) = (.ofL [.int .i64 0, .int .i64 0, .int .i64 0, .str [], .nilslice, .nilslice, .nilslice] 0 false) := by
      rw [get_new, if_neg (by rw [pa_eq, next_new, next_new]; omega), get_new, if_pos (by rw [next_new])]
    have y1 : (((h.new (.ofL [.int .i64 c.k, .int .i64 c.x, .int .i64 c.n, .str c.s, va, vt, vl] 0 false)).new (.ofL [.int .i64 0, .int .i64 0, .int .i64 0, .str [], .nilslice, .nilslice, .nilslice] 0 false)).new (.ofL [.int .i64 0, .int .i64 0, .int .i64 0, .str [], .nilslice, .nilslice, .nilslice] 0 false)).get (pa (h.next + 2)) = (.ofL [.int .i64 0, .int .i64 0, .int .i64 0, .str [], .nilslice, .nilslice, .nilslice] 0 false) := by
      rw [get_new, if_pos (by rw [next_new, next_new])]
    have n1 : (((h.new (.ofL [.int .i64 c.k, .int .i64 c.x, .int .i64 c.n, .str c.s, va, vt, vl] 0 false)).new (.ofL [.int .i64 0, .int .i64 0, .int .i64 0, .str [], .nilslice, .nilslice, .nilslice] 0 false)).new (.ofL [.int .i64 0, .int .i64 0, .int .i64 0, .str [], .nilslice, .nilslice, .nilslice] 0 false)).next = h.next + 3 := by rw [next_new, next_new, next_new]
    simp +contextual only [↓wA, wC, Ex.ends, evR, oneOf, top, ↓reduceIte, Nat.reduceEqDiff, Nat.reduceLeDiff, Nat.reduceAdd, Nat.reduceSub, Nat.reduceMul, reduceCtorEq, Int.reduceEq, Int.reduceLT, Int.reduceLE, Int.reduceNeg]
    generalize (((h.new (.ofL [.int .i64 c.k, .int .i64 c.x, .int .i64 c.n, .str c.s, va, vt, vl] 0 false)).new (.ofL [.int .i64 0, .int .i64 0, .int .i64 0, .str [], .nilslice, .nilslice, .nilslice] 0 false)).new (.ofL [.int .i64 0, .int .i64 0, .int .i64 0, .str [], .nilslice, .nilslice, .nilslice] 0 false)) = H1 at *
    refine callK_intro (clone_ctr c.t vt H1 (Ht.ext e1) (by omega)) ?_
    rintro vt' H2 ⟨Pt, e2⟩
    have hn2 := e2.next
    have g2 : H2.get (pa h.next) = (.ofL [.int .i64 c.k, .int .i64 c.x, .int .i64 c.n, .str c.s, va, vt, vl] 0 false) := by rw [e2.get _ (old_lt (by omega))]; exact g1
    have z2 : H2.get (pa (h.next + 1)) = (.ofL [.int .i64 0, .int .i64 0, .int .i64 0, .str [], .nilslice, .nilslice, .nilslice] 0 false) := by rw [e2.get _ (old_lt (by omega))]; exact z1
    have y2 : H2.get (pa (h.next + 2)) = (.ofL [.int .i64 0, .int .i64 0, .int .i64 0, .str [], .nilslice, .nilslice, .nilslice] 0 false) := by rw [e2.get _ (old_lt (by omega))]; exact y1
    have ot := Pt.v.one
    have la := fun g (e : Ext h g) => (Ha.ext e).len
    have ll := fun g (e : Ext h g) => (Hl.ext e).len
    have kM : ∀ B : Blk, Mod (fun b => b = pa (h.next + 2)) H2 (H2.set (pa (h.next + 2)) B) := fun B => (Mod.refl (fun b => b = pa (h.next + 2)) H2).set (fun _ => rfl) _
    have hMS : ∀ (x' : Int) (H3 : Heap), Mod (fun b => b = pa (h.next + 2)) H2 H3 → H3.get (pa (h.next + 2)) = (.ofL [.int .i64 c.k, .int .i64 x', .int .i64 c.n, .str c.s, .nilslice, vt', .nilslice] 0 false) → MapS h [.int .i64 c.k, .int .i64 c.x, .int .i64 c.n, .str c.s, va, vt, vl] c x' vt' H3 .nilslice .nilslice := by
      intro x' H3 m3 hg
      refine ⟨(e1.trans e2).mod_new m3 (fun b q => by rw [q, unPa_pa]; omega), by have := m3.next; omega, ?_, ?_, hg, ?_, fun b q => ⟨fun q => q.elim, fun q => q.elim⟩⟩
      · rw [m3.get _ (old_lt (by omega)) (by rw [pa_eq]; omega)]; exact g2
      · rw [m3.get _ (old_lt (by omega)) (by rw [pa_eq]; omega)]; exact z2
      · exact (Pt.mono (by omega)).mod m3 (fun b q e => by have := Pt.base q; rw [e, unPa_pa] at this; omega)
    have done : ∀ (x' : Int) (g' : Heap) (wa wl : V) (us : List (List V)) (G : Nat → Pa → Prop), (if bindsX c.k then f c.x else c.x) = x' → MapS h [.int .i64 c.k, .int .i64 c.x, .int .i64 c.n, .str c.s, va, vt, vl] c x' vt' g' wa wl → SlO (h.next + 3) g' 3 wa (c.a.map (reA f)).length (atsV (c.a.map (reA f))) → SlO (h.next + 3) g' 7 wl c.l.length us.flatten → us.length = c.l.length → (∀ b, wl.blk b → ¬ wa.blk b) →
        (∀ (j : Nat) (d : Co) (u : List V), (reCs f (decide (c.k = 8)) c.l)[j]? = some d → us[j]? = some u → CoS g' (G j) d u) → (∀ j b, j < c.l.length → G j b → h.next + 3 ≤ unPa b ∧ ¬ wl.blk b ∧ ¬ wa.blk b ∧ ¬ vt'.blk b) → (∀ i j b, i < c.l.length → j < c.l.length → i ≠ j → G i b → ¬ G j b) →
        CoS (g'.set (pa (h.next + 1)) (.ofL [.int .i64 c.k, .int .i64 x', .int .i64 c.n, .str c.s, wa, vt', wl] 0 false)) (fun b => h.next ≤ unPa b) (reC f c) [.int .i64 c.k, .int .i64 x', .int .i64 c.n, .str c.s, wa, vt', wl] ∧ Ext h (g'.set (pa (h.next + 1)) (.ofL [.int .i64 c.k, .int .i64 x', .int .i64 c.n, .str c.s, wa, vt', wl] 0 false)) := by
      intro x' g' wa wl us G hx S Pwa Pwl hul hd hk hG hGd
      have m5 : Mod (fun b => b = pa (h.next + 1)) g' (g'.set (pa (h.next + 1)) (.ofL [.int .i64 c.k, .int .i64 x', .int .i64 c.n, .str c.s, wa, vt', wl] 0 false)) := (Mod.refl (fun b => b = pa (h.next + 1)) g').set (fun _ => rfl) _
      refine ⟨?_, S.ext.mod_new m5 (fun b q => by rw [q, unPa_pa]; omega)⟩
      have key : CoS g' (fun b => h.next + 3 ≤ unPa b) (.mk c.k x' c.n c.s (c.a.map (reA f)) c.t (reCs f (decide (c.k = 8)) c.l)) [.int .i64 c.k, .int .i64 x', .int .i64 c.n, .str c.s, wa, vt', wl] := by
        refine .mk G (Pwa.mono (Nat.zero_le _)) (S.pt.mono (Nat.zero_le _)) (by rw [reCs_len]; exact Pwl.mono (Nat.zero_le _)) (by rw [reCs_len]; exact hul) hk (fun b q => Pwa.base q) (fun b q => S.pt.base q) (fun b q => Pwl.base q) (fun i b hi q => hG i b (by rw [reCs_len] at hi; exact hi) q) (fun b q => ⟨hd b q, fun q' => (S.dt b q').2 q⟩) (fun b q => (S.dt b q).1) (fun i j b hi hj hij => hGd i j b (by rw [reCs_len] at hi; exact hi) (by rw [reCs_len] at hj; exact hj) hij)
      have key2 := (key.mod m5 (fun b q e => by rw [e, unPa_pa] at q; omega)).weak (F' := fun b => h.next ≤ unPa b) (fun b q => by omega)
      have : reC f c = .mk c.k x' c.n c.s (c.a.map (reA f)) c.t (reCs f (decide (c.k = 8)) c.l) := by rw [← hx]; cases c; rfl
      rw [this]
      exact key2
    have e14 := eq_false k2
    simp +contextual only [g1, g2, z2, y2, ot.1, ot.2.1, ot.2.2, ↓wA, wC, Ex.ends, evR, oneOf, top, ↓reduceIte, Nat.reduceEqDiff, Nat.reduceLeDiff, Nat.reduceAdd, Nat.reduceSub, Nat.reduceMul, reduceCtorEq, Int.reduceEq, Int.reduceLT, Int.reduceLE, Int.reduceNeg]
    by_cases h2 : c.k = 2
    · have e2k := eq_true h2
      have T2 := T.ext ((e1.trans e2).mod_new (kM (.ofL [.int .i64 c.k, .int .i64 c.x, .int .i64 c.n, .str c.s, .nilslice, vt', .nilslice] 0 false)) (fun b q => by rw [q, unPa_pa]; omega))
      simp +contextual only [e2k, g1, g2, z2, y2, ↓wA, wC, Ex.ends, evR, oneOf, top, ↓reduceIte, Nat.reduceEqDiff, Nat.reduceLeDiff, Nat.reduceAdd, Nat.reduceSub, Nat.reduceMul, reduceCtorEq, Int.reduceEq, Int.reduceLT, Int.reduceLE, Int.reduceNeg]
      refine callK_intro (to_ctr T2 c.x) ?_
      rintro x h2 ⟨rfl, rfl⟩
      have S3 := hMS (f c.x) ((H2.set (pa (h.next + 2)) (.ofL [.int .i64 c.k, .int .i64 c.x, .int .i64 c.n, .str c.s, .nilslice, vt', .nilslice] 0 false)).set (pa (h.next + 2)) (.ofL [.int .i64 c.k, .int .i64 (f c.x), .int .i64 c.n, .str c.s, .nilslice, vt', .nilslice] 0 false)) ((kM (.ofL [.int .i64 c.k, .int .i64 c.x, .int .i64 c.n, .str c.s, .nilslice, vt', .nilslice] 0 false)).set (fun _ => rfl) _) (by rw [get_set, if_pos rfl])
      have LA := la _ S3.ext
      simp +contextual only [e2k, g1, g2, z2, y2, LA, ↓wA, wC, Ex.ends, evR, oneOf, top, ↓reduceIte, Nat.reduceEqDiff, Nat.reduceLeDiff, Nat.reduceAdd, Nat.reduceSub, Nat.reduceMul, reduceCtorEq, Int.reduceEq, Int.reduceLT, Int.reduceLE, Int.reduceNeg]
      refine mapA (c := c) (x' := f c.x) (vt' := vt') (va := va) (vt := vt) (vl := vl) T Ha (by omega) _ _ _ _ S3 (by simp only [↓wA, wC, ↓reduceIte, Nat.reduceEqDiff, reduceCtorEq]) (by simp only [↓wA, wC, ↓reduceIte, Nat.reduceEqDiff, reduceCtorEq]) (by simp only [↓wA, wC, ↓reduceIte, Nat.reduceEqDiff, reduceCtorEq]) (by simp only [↓wA, wC, ↓reduceIte, Nat.reduceEqDiff, reduceCtorEq]) (by simp only [↓wA, wC, ↓reduceIte, Nat.reduceEqDiff, reduceCtorEq]) (by simp only [↓wA, wC, ↓reduceIte, Nat.reduceEqDiff, reduceCtorEq]) (by simp only [↓wA, wC, ↓reduceIte, Nat.reduceEqDiff, reduceCtorEq]) ?_
      intro g3 wa r3 S4 Pwa a1 a2 a4 a5
      have LL := ll _ S4.ext
      simp +contextual only [a1, a2, a4, a5, S4.b2, LL, ↓wA, wC, Ex.ends, evR, oneOf, top, ↓reduceIte, Nat.reduceEqDiff, Nat.reduceLeDiff, Nat.reduceAdd, Nat.reduceSub, Nat.reduceMul, reduceCtorEq, Int.reduceEq, Int.reduceLT, Int.reduceLE, Int.reduceNeg]
      refine mapB (c := c) (x' := f c.x) (vt' := vt') (va := va) (vt := vt) (vl := vl) T Hl (by omega) _ _ _ _ S4 Pwa kid (by simp only [a1, ↓wA, wC, ↓reduceIte, Nat.reduceEqDiff, reduceCtorEq]) (by simp only [a2, ↓wA, wC, ↓reduceIte, Nat.reduceEqDiff, reduceCtorEq]) (by simp only [a4, ↓wA, wC, ↓reduceIte, Nat.reduceEqDiff, reduceCtorEq]) (by simp only [a5, ↓wA, wC, ↓reduceIte, Nat.reduceEqDiff, reduceCtorEq]) (by simp only [↓wA, wC, ↓reduceIte, Nat.reduceEqDiff, reduceCtorEq]) (by simp only [↓wA, wC, ↓reduceIte, Nat.reduceEqDiff, reduceCtorEq]) (by simp only [↓wA, wC, ↓reduceIte, Nat.reduceEqDiff, reduceCtorEq]) ?_
      intro g4 wl us G r4 S5 Pwa2 Pwl hul hd hk hG hGd b4 b5
      have oa := Pwa2.v.one.1
      have ol := Pwl.v.one.1
      simp +contextual only [b4, b5, S5.b4, S5.b5, oa, ol, ot.1, ↓wA, wC, Ex.ends, evR, oneOf, top, ↓reduceIte, Nat.reduceEqDiff, Nat.reduceLeDiff, Nat.reduceAdd, Nat.reduceSub, Nat.reduceMul, reduceCtorEq, Int.reduceEq, Int.reduceLT, Int.reduceLE, Int.reduceNeg]
      exact ⟨_, rfl, done (f c.x) g4 wa wl us G (by rw [if_pos (by simp [bindsX, h2])]) S5 Pwa2 Pwl hul hd hk hG hGd⟩
    have e2k := eq_false h2
    by_cases h11 : c.k = 11
    · have e11 := eq_true h11
      have T2 := T.ext ((e1.trans e2).mod_new (kM (.ofL [.int .i64 c.k, .int .i64 c.x, .int .i64 c.n, .str c.s, .nilslice, vt', .nilslice] 0 false)) (fun b q => by rw [q, unPa_pa]; omega))
      simp +contextual only [e2k, e11, g1, g2, z2, y2, ↓wA, wC, Ex.ends, evR, oneOf, top, ↓reduceIte, Nat.reduceEqDiff, Nat.reduceLeDiff, Nat.reduceAdd, Nat.reduceSub, Nat.reduceMul, reduceCtorEq, Int.reduceEq, Int.reduceLT, Int.reduceLE, Int.reduceNeg]
      refine callK_intro (to_ctr T2 c.x) ?_
      rintro x h2 ⟨rfl, rfl⟩
      have S3 := hMS (f c.x) ((H2.set (pa (h.next + 2)) (.ofL [.int .i64 c.k, .int .i64 c.x, .int .i64 c.n, .str c.s, .nilslice, vt', .nilslice] 0 false)).set (pa (h.next + 2)) (.ofL [.int .i64 c.k, .int .i64 (f c.x), .int .i64 c.n, .str c.s, .nilslice, vt', .nilslice] 0 false)) ((kM (.ofL [.int .i64 c.k, .int .i64 c.x, .int .i64 c.n, .str c.s, .nilslice, vt', .nilslice] 0 false)).set (fun _ => rfl) _) (by rw [get_set, if_pos rfl])
      have LA := la _ S3.ext
      simp +contextual only [e2k, e11, g1, g2, z2, y2, LA, ↓wA, wC, Ex.ends, evR, oneOf, top, ↓reduceIte, Nat.reduceEqDiff, Nat.reduceLeDiff, Nat.reduceAdd, Nat.reduceSub, Nat.reduceMul, reduceCtorEq, Int.reduceEq, Int.reduceLT, Int.reduceLE, Int.reduceNeg]
      refine mapA (c := c) (x' := f c.x) (vt' := vt') (va := va) (vt := vt) (vl := vl) T Ha (by omega) _ _ _ _ S3 (by simp only [↓wA, wC, ↓reduceIte, Nat.reduceEqDiff, reduceCtorEq]) (by simp only [↓wA, wC, ↓reduceIte, Nat.reduceEqDiff, reduceCtorEq]) (by simp only [↓wA, wC, ↓reduceIte, Nat.reduceEqDiff, reduceCtorEq]) (by simp only [↓wA, wC, ↓reduceIte, Nat.reduceEqDiff, reduceCtorEq]) (by simp only [↓wA, wC, ↓reduceIte, Nat.reduceEqDiff, reduceCtorEq]) (by simp only [↓wA, wC, ↓reduceIte, Nat.reduceEqDiff, reduceCtorEq]) (by simp only [↓wA, wC, ↓reduceIte, Nat.reduceEqDiff, reduceCtorEq]) ?_
      intro g3 wa r3 S4 Pwa a1 a2 a4 a5
      have LL := ll _ S4.ext
      simp +contextual only [a1, a2, a4, a5, S4.b2, LL, ↓wA, wC, Ex.ends, evR, oneOf, top, ↓reduceIte, Nat.reduceEqDiff, Nat.reduceLeDiff, Nat.reduceAdd, Nat.reduceSub, Nat.reduceMul, reduceCtorEq, Int.reduceEq, Int.reduceLT, Int.reduceLE, Int.reduceNeg]
      refine mapB (c := c) (x' := f c.x) (vt' := vt') (va := va) (vt := vt) (vl := vl) T Hl (by omega) _ _ _ _ S4 Pwa kid (by simp only [a1, ↓wA, wC, ↓reduceIte, Nat.reduceEqDiff, reduceCtorEq]) (by simp only [a2, ↓wA, wC, ↓reduceIte, Nat.reduceEqDiff, reduceCtorEq]) (by simp only [a4, ↓wA, wC, ↓reduceIte, Nat.reduceEqDiff, reduceCtorEq]) (by simp only [a5, ↓wA, wC, ↓reduceIte, Nat.reduceEqDiff, reduceCtorEq]) (by simp only [↓wA, wC, ↓reduceIte, Nat.reduceEqDiff, reduceCtorEq]) (by simp only [↓wA, wC, ↓reduceIte, Nat.reduceEqDiff, reduceCtorEq]) (by simp only [↓wA, wC, ↓reduceIte, Nat.reduceEqDiff, reduceCtorEq]) ?_
      intro g4 wl us G r4 S5 Pwa2 Pwl hul hd hk hG hGd b4 b5
      have oa := Pwa2.v.one.1
      have ol := Pwl.v.one.1
      simp +contextual only [b4, b5, S5.b4, S5.b5, oa, ol, ot.1, ↓wA, wC, Ex.ends, evR, oneOf, top, ↓reduceIte, Nat.reduceEqDiff, Nat.reduceLeDiff, Nat.reduceAdd, Nat.reduceSub, Nat.reduceMul, reduceCtorEq, Int.reduceEq, Int.reduceLT, Int.reduceLE, Int.reduceNeg]
      exact ⟨_, rfl, done (f c.x) g4 wa wl us G (by rw [if_pos (by simp [bindsX, h11])]) S5 Pwa2 Pwl hul hd hk hG hGd⟩
    have e11 := eq_false h11
    by_cases h7 : c.k = 7
    · have e7 := eq_true h7
      have T2 := T.ext ((e1.trans e2).mod_new (kM (.ofL [.int .i64 c.k, .int .i64 c.x, .int .i64 c.n, .str c.s, .nilslice, vt', .nilslice] 0 false)) (fun b q => by rw [q, unPa_pa]; omega))
      simp +contextual only [e2k, e11, e7, g1, g2, z2, y2, ↓wA, wC, Ex.ends, evR, oneOf, top, ↓reduceIte, Nat.reduceEqDiff, Nat.reduceLeDiff, Nat.reduceAdd, Nat.reduceSub, Nat.reduceMul, reduceCtorEq, Int.reduceEq, Int.reduceLT, Int.reduceLE, Int.reduceNeg]
      refine callK_intro (to_ctr T2 c.x) ?_
      rintro x h2 ⟨rfl, rfl⟩
      have S3 := hMS (f c.x) ((H2.set (pa (h.next + 2)) (.ofL [.int .i64 c.k, .int .i64 c.x, .int .i64 c.n, .str c.s, .nilslice, vt', .nilslice] 0 false)).set (pa (h.next + 2)) (.ofL [.int .i64 c.k, .int .i64 (f c.x), .int .i64 c.n, .str c.s, .nilslice, vt', .nilslice] 0 false)) ((kM (.ofL [.int .i64 c.k, .int .i64 c.x, .int .i64 c.n, .str c.s, .nilslice, vt', .nilslice] 0 false)).set (fun _ => rfl) _) (by rw [get_set, if_pos rfl])
      have LA := la _ S3.ext
      simp +contextual only [e2k, e11, e7, g1, g2, z2, y2, LA, ↓wA, wC, Ex.ends, evR, oneOf, top, ↓reduceIte, Nat.reduceEqDiff, Nat.reduceLeDiff, Nat.reduceAdd, Nat.reduceSub, Nat.reduceMul, reduceCtorEq, Int.reduceEq, Int.reduceLT, Int.reduceLE, Int.reduceNeg]
      refine mapA (c := c) (x' := f c.x) (vt' := vt') (va := va) (vt := vt) (vl := vl) T Ha (by omega) _ _ _ _ S3 (by simp only [↓wA, wC, ↓reduceIte, Nat.reduceEqDiff, reduceCtorEq]) (by simp only [↓wA, wC, ↓reduceIte, Nat.reduceEqDiff, reduceCtorEq]) (by simp only [↓wA, wC, ↓reduceIte, Nat.reduceEqDiff, reduceCtorEq]) (by simp only [↓wA, wC, ↓reduceIte, Nat.reduceEqDiff, reduceCtorEq]) (by simp only [↓wA, wC, ↓reduceIte, Nat.reduceEqDiff, reduceCtorEq]) (by simp only [↓wA, wC, ↓reduceIte, Nat.reduceEqDiff, reduceCtorEq]) (by simp only [↓wA, wC, ↓reduceIte, Nat.reduceEqDiff, reduceCtorEq]) ?_
      intro g3 wa r3 S4 Pwa a1 a2 a4 a5
      have LL := ll _ S4.ext
      simp +contextual only [a1, a2, a4, a5, S4.b2, LL, ↓wA, wC, Ex.ends, evR, oneOf, top, ↓reduceIte, Nat.reduceEqDiff, Nat.reduceLeDiff, Nat.reduceAdd, Nat.reduceSub, Nat.reduceMul, reduceCtorEq, Int.reduceEq, Int.reduceLT, Int.reduceLE, Int.reduceNeg]
      refine mapB (c := c) (x' := f c.x) (vt' := vt') (va := va) (vt := vt) (vl := vl) T Hl (by omega) _ _ _ _ S4 Pwa kid (by simp only [a1, ↓wA, wC, ↓reduceIte, Nat.reduceEqDiff, reduceCtorEq]) (by simp only [a2, ↓wA, wC, ↓reduceIte, Nat.reduceEqDiff, reduceCtorEq]) (by simp only [a4, ↓wA, wC, ↓reduceIte, Nat.reduceEqDiff, reduceCtorEq]) (by simp only [a5, ↓wA, wC, ↓reduceIte, Nat.reduceEqDiff, reduceCtorEq]) (by simp only [↓wA, wC, ↓reduceIte, Nat.reduceEqDiff, reduceCtorEq]) (by simp only [↓wA, wC, ↓reduceIte, Nat.reduceEqDiff, reduceCtorEq]) (by simp only [↓wA, wC, ↓reduceIte, Nat.reduceEqDiff, reduceCtorEq]) ?_
      intro g4 wl us G r4 S5 Pwa2 Pwl hul hd hk hG hGd b4 b5
      have oa := Pwa2.v.one.1
      have ol := Pwl.v.one.1
      simp +contextual only [b4, b5, S5.b4, S5.b5, oa, ol, ot.1, ↓wA, wC, Ex.ends, evR, oneOf, top, ↓reduceIte, Nat.reduceEqDiff, Nat.reduceLeDiff, Nat.reduceAdd, Nat.reduceSub, Nat.reduceMul, reduceCtorEq, Int.reduceEq, Int.reduceLT, Int.reduceLE, Int.reduceNeg]
      exact ⟨_, rfl, done (f c.x) g4 wa wl us G (by rw [if_pos (by simp [bindsX, h7])]) S5 Pwa2 Pwl hul hd hk hG hGd⟩
    have e7 := eq_false h7
    have S3 := hMS (c.x) (H2.set (pa (h.next + 2)) (.ofL [.int .i64 c.k, .int .i64 c.x, .int .i64 c.n, .str c.s, .nilslice, vt', .nilslice] 0 false)) (kM _) (by rw [get_set, if_pos rfl])
    have LA := la _ S3.ext
    simp +contextual only [e2k, e11, e7, e14, g1, g2, z2, y2, LA, ↓wA, wC, Ex.ends, evR, oneOf, top, ↓reduceIte, Nat.reduceEqDiff, Nat.reduceLeDiff, Nat.reduceAdd, Nat.reduceSub, Nat.reduceMul, reduceCtorEq, Int.reduceEq, Int.reduceLT, Int.reduceLE, Int.reduceNeg]
    refine mapA (c := c) (x' := c.x) (vt' := vt') (va := va) (vt := vt) (vl := vl) T Ha (by omega) _ _ _ _ S3 (by simp only [↓wA, wC, ↓reduceIte, Nat.reduceEqDiff, reduceCtorEq]) (by simp only [↓wA, wC, ↓reduceIte, Nat.reduceEqDiff, reduceCtorEq]) (by simp only [↓wA, wC, ↓reduceIte, Nat.reduceEqDiff, reduceCtorEq]) (by simp only [↓wA, wC, ↓reduceIte, Nat.reduceEqDiff, reduceCtorEq]) (by simp only [↓wA, wC, ↓reduceIte, Nat.reduceEqDiff, reduceCtorEq]) (by simp only [↓wA, wC, ↓reduceIte, Nat.reduceEqDiff, reduceCtorEq]) (by simp only [↓wA, wC, ↓reduceIte, Nat.reduceEqDiff, reduceCtorEq]) ?_
    intro g3 wa r3 S4 Pwa a1 a2 a4 a5
    have LL := ll _ S4.ext
    simp +contextual only [a1, a2, a4, a5, S4.b2, LL, ↓wA, wC, Ex.ends, evR, oneOf, top, ↓reduceIte, Nat.reduceEqDiff, Nat.reduceLeDiff, Nat.reduceAdd, Nat.reduceSub, Nat.reduceMul, reduceCtorEq, Int.reduceEq, Int.reduceLT, Int.reduceLE, Int.reduceNeg]
    refine mapB (c := c) (x' := c.x) (vt' := vt') (va := va) (vt := vt) (vl := vl) T Hl (by omega) _ _ _ _ S4 Pwa kid (by simp only [a1, ↓wA, wC, ↓reduceIte, Nat.reduceEqDiff, reduceCtorEq]) (by simp only [a2, ↓wA, wC, ↓reduceIte, Nat.reduceEqDiff, reduceCtorEq]) (by simp only [a4, ↓wA, wC, ↓reduceIte, Nat.reduceEqDiff, reduceCtorEq]) (by simp only [a5, ↓wA, wC, ↓reduceIte, Nat.reduceEqDiff, reduceCtorEq]) (by simp only [↓wA, wC, ↓reduceIte, Nat.reduceEqDiff, reduceCtorEq]) (by simp only [↓wA, wC, ↓reduceIte, Nat.reduceEqDiff, reduceCtorEq]) (by simp only [↓wA, wC, ↓reduceIte, Nat.reduceEqDiff, reduceCtorEq]) ?_
    intro g4 wl us G r4 S5 Pwa2 Pwl hul hd hk hG hGd b4 b5
    have oa := Pwa2.v.one.1
    have ol := Pwl.v.one.1
    simp +contextual only [b4, b5, S5.b4, S5.b5, oa, ol, ot.1, ↓wA, wC, Ex.ends, evR, oneOf, top, ↓reduceIte, Nat.reduceEqDiff, Nat.reduceLeDiff, Nat.reduceAdd, Nat.reduceSub, Nat.reduceMul, reduceCtorEq, Int.reduceEq, Int.reduceLT, Int.reduceLE, Int.reduceNeg]
    exact ⟨_, rfl, done (c.x) g4 wa wl us G (by rw [if_neg (by simp [bindsX, h2, h11, h7])]) S5 Pwa2 Pwl hul hd hk hG hGd⟩
end Go.Proofs.YtjbiefneffiogaaGreat

namespace Go.Proofs.YtjbiefneffiogaaGreat
open Go Am
def plF (l : List Int) (from_ : Int) (n : Int) : Int := from_ + placeL l n
theorem placeL_lt : ∀ (l : List Int) (n : Int), -1 ≤ placeL l n ∧ placeL l n < l.length
  | [], n => by simp [placeL]
  | m :: l, n => by
    have := placeL_lt l n
    rw [placeL_cons, List.length_cons]
    split
    · omega
    · split <;> omega
theorem w_plF {l : List Int} {fr : Int} (h1 : 0 ≤ fr) (h2 : fr ≤ 1048576) (h3 : l.length ≤ 1048576) (n : Int) : IntKind.i64.wrap (fr + placeL l n) = plF l fr n := by
  have := placeL_lt l n
  rw [wrap_i64 (by omega) (by omega)]
  rfl
structure RenS (h : Heap) (bx : List V) (g : Heap) : Prop where
  ext : Ext h g
  n : h.next + 2 ≤ g.next
  b3 : g.get (pa h.next) = .ofL bx 0 false
  b6 : g.get (pa (h.next + 1)) = .ofL [.int .i64 0, .int .i64 0, .int .i64 0, .str [], .nilslice, .nilslice, .nilslice] 0 false
theorem RenS.keep {h : Heap} {bx : List V} {g g' : Heap} (S : RenS h bx g) (e : Ext g g') : RenS h bx g' :=
  ⟨S.ext.trans e, Nat.le_trans S.n e.next, by rw [e.get _ (old_lt (by have := S.n; omega))]; exact S.b3, by rw [e.get _ (old_lt (by have := S.n; omega))]; exact S.b6⟩
theorem RenS.mod {h : Heap} {bx : List V} {g g' : Heap} {M : Pa → Prop} (S : RenS h bx g) (m : Mod M g g') (hM : ∀ b, M b → h.next + 2 ≤ unPa b) : RenS h bx g' :=
  ⟨S.ext.mod_new m (fun b q => by have := hM b q; omega), Nat.le_trans S.n m.next, by rw [m.get _ (old_lt (by have := S.n; omega)) (fun q => by have := hM _ q; rw [unPa_pa] at this; omega)]; exact S.b3, by rw [m.get _ (old_lt (by have := S.n; omega)) (fun q => by have := hM _ q; rw [unPa_pa] at this; omega)]; exact S.b6⟩
set_option maxHeartbeats 2000000 in
theorem renA {h : Heap} {k x' n : Int} {s : List UInt8} {c : Co} {va vt vl vL : V} {l : List Int} {fr : Int} (f1 : 0 ≤ fr) (f2 : fr ≤ 1048576) (f3 : l.length ≤ 1048576) (HL : SlV h 1 vL l.length (intsV l)) (Ha : SlV h 3 va c.a.length (atsV c.a)) (hl : c.a.length ≤ 1048576) (g : Heap) (r : RF) (ks : List KS) (Q : Ex → RF → Heap → Prop)
    (S : RenS h [.int .i64 k, .int .i64 x', .int .i64 n, .str s, va, vt, vl] g)
    (q1 : r 1 = vL) (q2 : r 2 = .int .i64 fr) (q3 : r 3 = .ptr (pa h.next) 0) (q6 : r 6 = .ptr (pa (h.next + 1)) 0) (q8 : r 8 = .nilslice) (q9 : r 9 = .int .i64 0)
    (hK : ∀ g' wa r', RenS h [.int .i64 k, .int .i64 x', .int .i64 n, .str s, va, vt, vl] g' → SlO (h.next + 2) g' 3 wa (c.a.map (reA (plF l fr))).length (atsV (c.a.map (reA (plF l fr)))) → r' 1 = vL → r' 2 = .int .i64 fr → r' 3 = .ptr (pa h.next) 0 → r' 6 = .ptr (pa (h.next + 1)) 0 → r' 8 = wa → wpK Tryz.prog ks (.exit 0) r' g' Q) : loopK Tryz.prog c57l1 ks r g Q := by
  refine loopK_intro (fun r g => r 1 = vL ∧ r 2 = .int .i64 fr ∧ r 3 = .ptr (pa h.next) 0 ∧ r 6 = .ptr (pa (h.next + 1)) 0 ∧ ∃ (i : Nat) (wa : V), r 9 = .int .i64 i ∧ i ≤ c.a.length ∧ r 8 = wa ∧ RenS h [.int .i64 k, .int .i64 x', .int .i64 n, .str s, va, vt, vl] g ∧ SlO (h.next + 2) g 3 wa i (atsV ((c.a.take i).map (reA (plF l fr))))) (fun r h' => c.a.length - (r 9).toN) ?_ ?_
  · exact ⟨q1, q2, q3, q6, 0, .nilslice, by rw [q9]; rfl, by omega, q8, S, ⟨rfl, rfl⟩⟩
  · clear q1 q2 q3 q6 q8 q9 S
    rintro r g ⟨r1, r2, r3, r6, i, wa, r9, hi, r8, S, Pw⟩
    unfold c57l1
    have hL := (Ha.ext S.ext).len
    by_cases hlt : i < c.a.length
    · have g0 : ((i : Int) < (c.a.length : Int)) = True := eq_true (by omega)
      obtain ⟨b, o, ia, ld⟩ := ats_atx Ha (k := .i64) hlt S.ext
      have wi := w_inc hlt (by omega)
      have htk : (c.a.take (i + 1)).map (reA (plF l fr)) = (c.a.take i).map (reA (plF l fr)) ++ [reA (plF l fr) c.a[i]] := by rw [List.take_add_one, List.getElem?_eq_getElem hlt, List.map_append]; rfl
      generalize c.a[i] = q at *
      have hn := S.n
      have step : ∀ (q' : At) (H1 : Heap), Ext g H1 → reA (plF l fr) q = q' → ∃ w' g3, appV 3 wa (.slice (pa H1.next) 0 1 1) (H1.new (.ofL [.int .i64 q'.k, .int .i64 q'.n, .str q'.s] 0 false)) = .val w' g3 ∧
          RenS h [.int .i64 k, .int .i64 x', .int .i64 n, .str s, va, vt, vl] g3 ∧ SlO (h.next + 2) g3 3 w' (i + 1) (atsV ((c.a.take (i + 1)).map (reA (plF l fr)))) := by
        intro q' H1 e1 hq
        have S1 := S.keep e1
        obtain ⟨w', g3, a1, a2, a3, a4, a5⟩ := app_one (cs := [.int .i64 q'.k, .int .i64 q'.n, .str q'.s]) (by omega) (Pw.ext e1) S1.n (by unfold top; omega) rfl rfl
        refine ⟨w', g3, a1, S1.mod a3 (fun b q => Pw.base q), ?_⟩
        rw [htk, hq]
        have e : atsV ((c.a.take i).map (reA (plF l fr)) ++ [q']) = atsV ((c.a.take i).map (reA (plF l fr))) ++ [.int .i64 q'.k, .int .i64 q'.n, .str q'.s] := by
          rw [← atsV_flat, List.flatMap_append, atsV_flat]; rfl
        rw [e]
        exact a2
      by_cases hq : q.k = 1
      · have eq := eq_true hq
        have e1 : Ext g ((g.new (.ofL [.int .i64 0, .int .i64 0, .str []] 0 false)).set (pa g.next) (.ofL [.int .i64 q.k, .int .i64 q.n, .str q.s] 0 false)) := ((Ext.refl g).new _).set (Nat.le_refl _) _
        have e2 : Ext g (((g.new (.ofL [.int .i64 0, .int .i64 0, .str []] 0 false)).set (pa g.next) (.ofL [.int .i64 q.k, .int .i64 q.n, .str q.s] 0 false)).set (pa g.next) (.ofL [.int .i64 q.k, .int .i64 (plF l fr q.n), .str q.s] 0 false)) := e1.set (Nat.le_refl _) _
        obtain ⟨w', g3, t1, t5, t6⟩ := step ⟨q.k, plF l fr q.n, q.s⟩ _ e2 (by rw [reA, if_pos hq])
        rw [next_set, next_set, next_new] at t1
        have wp := w_plF f1 f2 f3 q.n
        simp +contextual only [r1, r2, r3, r6, r8, r9, S.b3, hL, g0, ia, ld, eq, ↓wA, wC, Ex.ends, evR, oneOf, top, ↓reduceIte, Nat.reduceEqDiff, Nat.reduceLeDiff, Nat.reduceAdd, Nat.reduceSub, Nat.reduceMul, reduceCtorEq, Int.reduceEq, Int.reduceLT, Int.reduceLE, Int.reduceNeg]
        refine callK_intro (place_ctr l q.n vL _ (HL.ext (S.ext.trans e1)) (by omega)) ?_
        rintro x h2 ⟨rfl, rfl⟩
        simp +contextual only [r1, r2, r3, r6, r8, r9, wp, t1, wi, ↓wA, wC, Ex.ends, evR, oneOf, top, ↓reduceIte, Nat.reduceEqDiff, Nat.reduceLeDiff, Nat.reduceAdd, Nat.reduceSub, Nat.reduceMul, reduceCtorEq, Int.reduceEq, Int.reduceLT, Int.reduceLE, Int.reduceNeg]
        exact ⟨⟨i + 1, w', rfl, hlt, rfl, t5, t6⟩, by omega⟩
      · have eq := eq_false hq
        have e1 : Ext g ((g.new (.ofL [.int .i64 0, .int .i64 0, .str []] 0 false)).set (pa g.next) (.ofL [.int .i64 q.k, .int .i64 q.n, .str q.s] 0 false)) := ((Ext.refl g).new _).set (Nat.le_refl _) _
        obtain ⟨w', g3, t1, t5, t6⟩ := step q _ e1 (by rw [reA, if_neg hq])
        rw [next_set, next_new] at t1
        simp +contextual only [r1, r2, r3, r6, r8, r9, S.b3, hL, g0, ia, ld, eq, t1, wi, ↓wA, wC, Ex.ends, evR, oneOf, top, ↓reduceIte, Nat.reduceEqDiff, Nat.reduceLeDiff, Nat.reduceAdd, Nat.reduceSub, Nat.reduceMul, reduceCtorEq, Int.reduceEq, Int.reduceLT, Int.reduceLE, Int.reduceNeg]
        exact ⟨⟨i + 1, w', rfl, hlt, rfl, t5, t6⟩, by omega⟩
    · have g0 : ((i : Int) < (c.a.length : Int)) = False := eq_false (by omega)
      obtain rfl : i = c.a.length := by omega
      rw [List.take_length] at Pw
      simp +contextual only [r1, r2, r3, r6, r8, r9, S.b3, hL, g0, ↓wA, wC, Ex.ends, evR, oneOf, top, ↓reduceIte, Nat.reduceEqDiff, Nat.reduceLeDiff, Nat.reduceAdd, Nat.reduceSub, Nat.reduceMul, reduceCtorEq, Int.reduceEq, Int.reduceLT, Int.reduceLE, Int.reduceNeg]
      exact hK _ wa _ S (by rw [List.length_map]; exact Pw) (by simp only [r1, ↓wA, wC, ↓reduceIte, Nat.reduceEqDiff, reduceCtorEq]) (by simp only [r2, ↓wA, wC, ↓reduceIte, Nat.reduceEqDiff, reduceCtorEq]) (by simp only [r3, ↓wA, wC, ↓reduceIte, Nat.reduceEqDiff, reduceCtorEq]) (by simp only [r6, ↓wA, wC, ↓reduceIte, Nat.reduceEqDiff, reduceCtorEq]) (by simp only [r8, ↓wA, wC, ↓reduceIte, Nat.reduceEqDiff, reduceCtorEq])
end Go.Proofs.YtjbiefneffiogaaGreat

namespace Go.Proofs.YtjbiefneffiogaaGreat
open Go Am
theorem CoIn.setN {h : Heap} {c : Co} {vs : List V} (H : CoIn h c vs) : ∃ va vt vl, vs = [.int .i64 c.k, .int .i64 c.x, .int .i64 c.n, .str c.s, va, vt, vl] ∧ ∀ n, CoIn h (c.setN n) [.int .i64 c.k, .int .i64 c.x, .int .i64 n, .str c.s, va, vt, vl] := by
  cases H with
  | mk ha ht hr hl hu kids => exact ⟨_, _, _, rfl, fun n => .mk ha ht hr hl hu kids⟩
theorem reC_setN (f : Int → Int) (c : Co) (n : Int) : reC f (c.setN n) = (reC f c).setN n := by cases c; rfl
theorem size_setN (c : Co) (n : Int) : size (c.setN n) = size c := by cases c; rfl
theorem fit_setN {m : Nat} {c : Co} {n : Int} (h : fit m c) : fit m (c.setN n) := by cases c; exact h
set_option maxHeartbeats 4000000 in
theorem renB {h : Heap} {n x' : Int} {s : List UInt8} {c : Co} {va vt vl vL wa : V} {l : List Int} {fr : Int} (f1 : 0 ≤ fr) (f2 : fr ≤ 1048576) (f3 : l.length ≤ 1048576) (HL : SlV h 1 vL l.length (intsV l)) (Hl : CosIn h c.l vl) (hl : c.l.length ≤ 1048576) (g : Heap) (r : RF) (ks : List KS) (Q : Ex → RF → Heap → Prop)
    (S : RenS h [.int .i64 c.k, .int .i64 x', .int .i64 n, .str s, va, vt, vl] g) (Pa0 : SlO (h.next + 2) g 3 wa (c.a.map (reA (plF l fr))).length (atsV (c.a.map (reA (plF l fr)))))
    (kid : ∀ (i : Nat) (d d' : Co) (u : List V) (g : Heap), c.l[i]? = some d → (d' = d ∨ ∃ n, d' = d.setN n) → CoIn g d' u → Ext h g → Ctr Tryz.prog 57 [.agg u, vL, .int .i64 fr] g fun x h' => ∃ us, x = .agg us ∧ CoF (fun b => g.next ≤ unPa b) h' (reC (plF l fr) d') us ∧ Ext g h')
    (q1 : r 1 = vL) (q2 : r 2 = .int .i64 fr) (q3 : r 3 = .ptr (pa h.next) 0) (q6 : r 6 = .ptr (pa (h.next + 1)) 0) (q8 : r 8 = wa) (q11 : r 11 = .nilslice) (q12 : r 12 = .int .i64 0)
    (hK : ∀ g' wl (us : List (List V)) r', RenS h [.int .i64 c.k, .int .i64 x', .int .i64 n, .str s, va, vt, vl] g' → SlO (h.next + 2) g' 3 wa (c.a.map (reA (plF l fr))).length (atsV (c.a.map (reA (plF l fr)))) → SlO (h.next + 2) g' 7 wl c.l.length us.flatten → us.length = c.l.length → (∀ b, wl.blk b → ¬ wa.blk b) →
      (∀ (j : Nat) (d : Co) (u : List V), (reCs (plF l fr) (decide (c.k = 8)) c.l)[j]? = some d → us[j]? = some u → CoF (fun b => h.next + 2 ≤ unPa b ∧ ¬ wl.blk b) g' d u) →
      r' 3 = .ptr (pa h.next) 0 → r' 6 = .ptr (pa (h.next + 1)) 0 → r' 8 = wa → r' 11 = wl → wpK Tryz.prog ks (.exit 2) r' g' Q) : loopK Tryz.prog c57l2 ks r g Q := by
  obtain ⟨rc, hrc⟩ : ∃ rc, rc = decide (c.k = 8) := ⟨_, rfl⟩
  rw [← hrc] at hK
  refine loopK_intro (fun r g => r 1 = vL ∧ r 2 = .int .i64 fr ∧ r 3 = .ptr (pa h.next) 0 ∧ r 6 = .ptr (pa (h.next + 1)) 0 ∧ r 8 = wa ∧ ∃ (i : Nat) (wl : V) (us : List (List V)), r 12 = .int .i64 i ∧ i ≤ c.l.length ∧ r 11 = wl ∧ RenS h [.int .i64 c.k, .int .i64 x', .int .i64 n, .str s, va, vt, vl] g ∧
    SlO (h.next + 2) g 3 wa (c.a.map (reA (plF l fr))).length (atsV (c.a.map (reA (plF l fr)))) ∧ SlO (h.next + 2) g 7 wl i us.flatten ∧ us.length = i ∧ (∀ b, wl.blk b → ¬ wa.blk b) ∧
    (∀ (j : Nat) (d : Co) (u : List V), j < i → (reCs (plF l fr) rc c.l)[j]? = some d → us[j]? = some u → CoF (fun b => h.next + 2 ≤ unPa b ∧ ¬ wl.blk b) g d u)) (fun r h' => c.l.length - (r 12).toN) ?_ ?_
  · exact ⟨q1, q2, q3, q6, q8, 0, .nilslice, [], by rw [q12]; rfl, by omega, q11, S, Pa0, ⟨rfl, rfl⟩, rfl, fun b q => q.elim, fun j d u hj => by omega⟩
  · clear q1 q2 q3 q6 q8 q11 q12 S Pa0
    rintro r g ⟨r1, r2, r3, r6, r8, i, wl, us, r12, hi, r11, S, Pa0, Pw, hul, hdw, hk⟩
    unfold c57l2
    have hL := fun g (e : Ext h g) => (Hl.ext e).len
    have hLg := hL g S.ext
    by_cases hlt : i < c.l.length
    · have g0 : ((i : Int) < (c.l.length : Int)) = True := eq_true (by omega)
      obtain ⟨b, o, u, ia, hu, lds⟩ := Hl.atx (k := .i64) hlt
      have ld := (lds g S.ext).1
      have wi := w_inc hlt (by omega)
      have hfi : c.l[i]? = some c.l[i] := List.getElem?_eq_getElem hlt
      have hre := reCs_at (plF l fr) rc c.l i _ hfi
      generalize hfd : c.l[i] = d at *
      obtain ⟨ea, et, el, rfl, HN⟩ := hu.setN
      obtain ⟨_, _, _, he, Fa, Ft, Fl⟩ := hu.open
      simp only [List.cons.injEq, and_true, true_and] at he
      obtain ⟨rfl, rfl, rfl⟩ := he
      have o1 := Fa.one.1
      have o2 := Ft.one.1
      have o3 := Fl.one.1
      have hn := S.n
      have nb2 : (g.next = h.next) = False := eq_false (by omega)
      have nb2' : (h.next = g.next) = False := eq_false (by omega)
      have e1 : Ext g ((g.new (.ofL [.int .i64 0, .int .i64 0, .int .i64 0, .str [], .nilslice, .nilslice, .nilslice] 0 false)).set (pa g.next) (.ofL [.int .i64 d.k, .int .i64 d.x, .int .i64 d.n, .str d.s, ea, et, el] 0 false)) := ((Ext.refl g).new _).set (Nat.le_refl _) _
      have e1n : Ext g (((g.new (.ofL [.int .i64 0, .int .i64 0, .int .i64 0, .str [], .nilslice, .nilslice, .nilslice] 0 false)).set (pa g.next) (.ofL [.int .i64 d.k, .int .i64 d.x, .int .i64 d.n, .str d.s, ea, et, el] 0 false)).set (pa g.next) (.ofL [.int .i64 d.k, .int .i64 d.x, .int .i64 (plF l fr d.n), .str d.s, ea, et, el] 0 false)) := e1.set (Nat.le_refl _) _
      have LL := hL _ (S.ext.trans e1)
      have step : ∀ (d' : Co) (H1 g2 : Heap) (u' : List V), Ext g H1 → (reCs (plF l fr) rc c.l)[i]? = some d' → CoF (fun b => H1.next ≤ unPa b) g2 d' u' → Ext H1 g2 →
          ∃ w' g3, appV 7 wl (.slice (pa (g2.next + 1)) 0 1 1) (((g2.new (.ofL [.int .i64 0, .int .i64 0, .int .i64 0, .str [], .nilslice, .nilslice, .nilslice] 0 false)).set (pa g2.next) (.ofL u' 0 false)).new (.ofL u' 0 false)) = .val w' g3 ∧
            ∃ (us' : List (List V)), RenS h [.int .i64 c.k, .int .i64 x', .int .i64 n, .str s, va, vt, vl] g3 ∧ SlO (h.next + 2) g3 3 wa (c.a.map (reA (plF l fr))).length (atsV (c.a.map (reA (plF l fr)))) ∧ SlO (h.next + 2) g3 7 w' (i + 1) us'.flatten ∧ us'.length = i + 1 ∧ (∀ b, w'.blk b → ¬ wa.blk b) ∧
            (∀ (j : Nat) (d : Co) (u : List V), j < i + 1 → (reCs (plF l fr) rc c.l)[j]? = some d → us'[j]? = some u → CoF (fun b => h.next + 2 ≤ unPa b ∧ ¬ w'.blk b) g3 d u) := by
        intro d' H1 g2 u' hx1 hd' Hu' hx2
        have e3 : Ext g2 ((g2.new (.ofL [.int .i64 0, .int .i64 0, .int .i64 0, .str [], .nilslice, .nilslice, .nilslice] 0 false)).set (pa g2.next) (.ofL u' 0 false)) := ((Ext.refl g2).new _).set (Nat.le_refl _) _
        have n3 : ((g2.new (.ofL [.int .i64 0, .int .i64 0, .int .i64 0, .str [], .nilslice, .nilslice, .nilslice] 0 false)).set (pa g2.next) (.ofL u' 0 false)).next = g2.next + 1 := by rw [next_set, next_new]
        obtain ⟨fa, ft, fl, hueq, Ga, Gt, Gl⟩ := Hu'.co.open
        have ho : ones u' = true := by rw [hueq]; simp only [ones, Ga.one.1, Gt.one.1, Gl.one.1, Bool.and_self, show ∀ (k : IntKind) (n : Int), V.one (.int k n) = true from fun _ _ => rfl, show ∀ s, V.one (.str s) = true from fun _ => rfl]
        have hul' : u'.length = 7 := by rw [hueq]; rfl
        have eg := (hx1.trans hx2).trans e3
        have hh1 := hx1.next
        have hh2 := hx2.next
        have S3 := S.keep eg
        generalize ((g2.new (.ofL [.int .i64 0, .int .i64 0, .int .i64 0, .str [], .nilslice, .nilslice, .nilslice] 0 false)).set (pa g2.next) (.ofL u' 0 false)) = H3 at *
        obtain ⟨w', g3, a1, a2, a3, a4, a5⟩ := app_one (cs := u') (by omega) (Pw.ext eg) S3.n (by unfold top; omega) hul' ho
        rw [n3] at a1
        have wold : ∀ b, wl.blk b → unPa b < g.next := fun b q => Pw.v.old q
        have nw' : ∀ b, unPa b < H3.next → ¬ wl.blk b → ¬ w'.blk b := fun b q1 q2 q => by
          rcases a5 b q with q | q
          · exact q2 q
          · omega
        refine ⟨w', g3, a1, us ++ [u'], S3.mod a3 (fun b q => Pw.base q), (Pa0.ext eg).mod a3 (fun b q e => hdw b e q), by rw [flatten_snoc]; exact a2, by simp [hul], ?_, ?_⟩
        · intro b q q'
          have : unPa b < g.next := Pa0.v.old q'
          exact nw' b (by omega) (fun q => hdw b q q') q
        · intro j d'' v hj z1 z2
          by_cases hji : j < i
          · rw [List.getElem?_append_left (by omega)] at z2
            refine (hk j d'' v hji z1 z2).mod ((eg.mod wl.blk).trans a3) (fun b f o => ⟨f.2, f.1, nw' b (by unfold Old at o; omega) f.2⟩)
          · obtain rfl : j = i := by omega
            rw [List.getElem?_append_right (by omega), hul, Nat.sub_self] at z2
            simp only [List.getElem?_cons_zero, Option.some.injEq] at z2
            rw [hd'] at z1
            cases z1
            subst z2
            refine Hu'.mod ((e3.mod wl.blk).trans a3) (fun b f o => ⟨fun e => by have := wold b e; omega, by omega, nw' b (by unfold Old at o; omega) (fun e => by have := wold b e; omega)⟩)
      by_cases h8 : c.k = 8 ∧ i + 1 < c.l.length
      · have e8 := eq_true h8.1
        have w0 : IntKind.i64.wrap ((c.l.length : Int) - 1) = ((c.l.length - 1 : Nat) : Int) := by rw [wrap_i64 (by omega) (by omega)]; omega
        have gl : ((i : Int) < ((c.l.length - 1 : Nat) : Int)) = True := eq_true (by omega)
        rw [if_pos (by rw [hrc]; simp [h8.1, h8.2])] at hre
        have wp := w_plF f1 f2 f3 d.n
        simp +contextual only [r1, r2, r3, r6, r8, r11, r12, S.b3, hLg, LL, g0, ia, ld, o1, o2, o3, nb2, nb2', e8, w0, gl, ↓wA, wC, Ex.ends, evR, oneOf, top, ↓reduceIte, Nat.reduceEqDiff, Nat.reduceLeDiff, Nat.reduceAdd, Nat.reduceSub, Nat.reduceMul, reduceCtorEq, Int.reduceEq, Int.reduceLT, Int.reduceLE, Int.reduceNeg]
        refine callK_intro (place_ctr l d.n vL _ (HL.ext (S.ext.trans e1)) (by omega)) ?_
        rintro x h2 ⟨rfl, rfl⟩
        simp +contextual only [r1, r2, r3, r6, r8, r11, r12, wp, ↓wA, wC, Ex.ends, evR, oneOf, top, ↓reduceIte, Nat.reduceEqDiff, Nat.reduceLeDiff, Nat.reduceAdd, Nat.reduceSub, Nat.reduceMul, reduceCtorEq, Int.reduceEq, Int.reduceLT, Int.reduceLE, Int.reduceNeg]
        refine callK_intro (kid i d (d.setN (plF l fr d.n)) _ _ hfi (.inr ⟨_, rfl⟩) ((HN (plF l fr d.n)).ext (S.ext.trans e1n)) (S.ext.trans e1n)) ?_
        rintro x g2 ⟨u', rfl, Hu', e2⟩
        rw [reC_setN] at Hu'
        obtain ⟨w', g3, t1, us', t5⟩ := step _ _ g2 u' e1n hre Hu' e2
        obtain ⟨fa, ft, fl, rfl, Ga, Gt, Gl⟩ := Hu'.co.open
        have p1 := Ga.one.1
        have p2 := Gt.one.1
        have p3 := Gl.one.1
        simp +contextual only [r1, r2, r3, r6, r8, r11, r12, p1, p2, p3, t1, wi, ↓wA, wC, Ex.ends, evR, oneOf, top, ↓reduceIte, Nat.reduceEqDiff, Nat.reduceLeDiff, Nat.reduceAdd, Nat.reduceSub, Nat.reduceMul, reduceCtorEq, Int.reduceEq, Int.reduceLT, Int.reduceLE, Int.reduceNeg]
        exact ⟨⟨i + 1, w', us', rfl, hlt, rfl, t5⟩, by omega⟩
      · rw [if_neg (by rw [hrc]; simpa using h8)] at hre
        have fin : ∀ (g2 : Heap) (u' : List V), CoF (fun b => ((g.new (.ofL [.int .i64 0, .int .i64 0, .int .i64 0, .str [], .nilslice, .nilslice, .nilslice] 0 false)).set (pa g.next) (.ofL [.int .i64 d.k, .int .i64 d.x, .int .i64 d.n, .str d.s, ea, et, el] 0 false)).next ≤ unPa b) g2 (reC (plF l fr) d) u' → Ext ((g.new (.ofL [.int .i64 0, .int .i64 0, .int .i64 0, .str [], .nilslice, .nilslice, .nilslice] 0 false)).set (pa g.next) (.ofL [.int .i64 d.k, .int .i64 d.x, .int .i64 d.n, .str d.s, ea, et, el] 0 false)) g2 → _ := fun g2 u' p q => step _ _ g2 u' e1 hre p q
        by_cases h8' : c.k = 8
        · have e8 := eq_true h8'
          have w0 : IntKind.i64.wrap ((c.l.length : Int) - 1) = ((c.l.length - 1 : Nat) : Int) := by rw [wrap_i64 (by omega) (by omega)]; omega
          have gl : ((i : Int) < ((c.l.length - 1 : Nat) : Int)) = False := eq_false (by omega)
          simp +contextual only [r1, r2, r3, r6, r8, r11, r12, S.b3, hLg, LL, g0, ia, ld, o1, o2, o3, nb2, nb2', e8, w0, gl, ↓wA, wC, Ex.ends, evR, oneOf, top, ↓reduceIte, Nat.reduceEqDiff, Nat.reduceLeDiff, Nat.reduceAdd, Nat.reduceSub, Nat.reduceMul, reduceCtorEq, Int.reduceEq, Int.reduceLT, Int.reduceLE, Int.reduceNeg]
          refine callK_intro (kid i d d _ _ hfi (.inl rfl) (hu.ext (S.ext.trans e1)) (S.ext.trans e1)) ?_
          rintro x g2 ⟨u', rfl, Hu', e2⟩
          obtain ⟨w', g3, t1, us', t5⟩ := fin g2 u' Hu' e2
          obtain ⟨fa, ft, fl, rfl, Ga, Gt, Gl⟩ := Hu'.co.open
          have p1 := Ga.one.1
          have p2 := Gt.one.1
          have p3 := Gl.one.1
          simp +contextual only [r1, r2, r3, r6, r8, r11, r12, p1, p2, p3, t1, wi, ↓wA, wC, Ex.ends, evR, oneOf, top, ↓reduceIte, Nat.reduceEqDiff, Nat.reduceLeDiff, Nat.reduceAdd, Nat.reduceSub, Nat.reduceMul, reduceCtorEq, Int.reduceEq, Int.reduceLT, Int.reduceLE, Int.reduceNeg]
          exact ⟨⟨i + 1, w', us', rfl, hlt, rfl, t5⟩, by omega⟩
        · have e8 := eq_false h8'
          simp +contextual only [r1, r2, r3, r6, r8, r11, r12, S.b3, hLg, LL, g0, ia, ld, o1, o2, o3, nb2, nb2', e8, ↓wA, wC, Ex.ends, evR, oneOf, top, ↓reduceIte, Nat.reduceEqDiff, Nat.reduceLeDiff, Nat.reduceAdd, Nat.reduceSub, Nat.reduceMul, reduceCtorEq, Int.reduceEq, Int.reduceLT, Int.reduceLE, Int.reduceNeg]
          refine callK_intro (kid i d d _ _ hfi (.inl rfl) (hu.ext (S.ext.trans e1)) (S.ext.trans e1)) ?_
          rintro x g2 ⟨u', rfl, Hu', e2⟩
          obtain ⟨w', g3, t1, us', t5⟩ := fin g2 u' Hu' e2
          obtain ⟨fa, ft, fl, rfl, Ga, Gt, Gl⟩ := Hu'.co.open
          have p1 := Ga.one.1
          have p2 := Gt.one.1
          have p3 := Gl.one.1
          simp +contextual only [r1, r2, r3, r6, r8, r11, r12, p1, p2, p3, t1, wi, ↓wA, wC, Ex.ends, evR, oneOf, top, ↓reduceIte, Nat.reduceEqDiff, Nat.reduceLeDiff, Nat.reduceAdd, Nat.reduceSub, Nat.reduceMul, reduceCtorEq, Int.reduceEq, Int.reduceLT, Int.reduceLE, Int.reduceNeg]
          exact ⟨⟨i + 1, w', us', rfl, hlt, rfl, t5⟩, by omega⟩
    · have g0 : ((i : Int) < (c.l.length : Int)) = False := eq_false (by omega)
      obtain rfl : i = c.l.length := by omega
      simp +contextual only [r1, r2, r3, r6, r8, r11, r12, S.b3, hLg, g0, ↓wA, wC, Ex.ends, evR, oneOf, top, ↓reduceIte, Nat.reduceEqDiff, Nat.reduceLeDiff, Nat.reduceAdd, Nat.reduceSub, Nat.reduceMul, reduceCtorEq, Int.reduceEq, Int.reduceLT, Int.reduceLE, Int.reduceNeg]
      exact hK _ wl us _ S Pa0 Pw hul hdw (fun j d u z1 z2 => hk j d u (by have := (List.getElem?_eq_some_iff.1 z1).1; rw [reCs_len] at this; exact this) z1 z2) (by simp only [r3, ↓wA, wC, ↓reduceIte, Nat.reduceEqDiff, reduceCtorEq]) (by simp only [r6, ↓wA, wC, ↓reduceIte, Nat.reduceEqDiff, reduceCtorEq]) (by simp only [r8, ↓wA, wC, ↓reduceIte, Nat.reduceEqDiff, reduceCtorEq]) (by simp only [r11, ↓wA, wC, ↓reduceIte, Nat.reduceEqDiff, reduceCtorEq])
end Go.Proofs.YtjbiefneffiogaaGreat

namespace Go.Proofs.YtjbiefneffiogaaGreat
open Go Am
set_option maxHeartbeats 4000000 in
theorem ren_ctr : ∀ (N : Nat) (c : Co), size c ≤ N → fit 1048576 c → ∀ (vs : List V) (h : Heap), CoIn h c vs → ∀ (l : List Int) (vL : V) (fr : Int), 0 ≤ fr → fr ≤ 1048576 → l.length ≤ 1048576 → SlV h 1 vL l.length (intsV l) →
    Ctr Tryz.prog 57 [.agg vs, vL, .int .i64 fr] h fun x h' => ∃ us, x = .agg us ∧ CoF (fun b => h.next ≤ unPa b) h' (reC (plF l fr) c) us ∧ Ext h h'
  | 0, c, hs, _, _, _, _, _, _, _, _, _, _, _ => by have := size_pos c; omega
  | N + 1, c, hs, hf, vs, h, H, l, vL, fr, fr0, fr1, hll, HL => by
    obtain ⟨f1, f2, f3, f4, f5⟩ := hf.kids
    have hsl := size_l c
    obtain ⟨va, vt, vl, rfl, Ha, Ht, Hl⟩ := H.open
    have kid : ∀ (i : Nat) (d d' : Co) (u : List V) (g : Heap), c.l[i]? = some d → (d' = d ∨ ∃ n, d' = d.setN n) → CoIn g d' u → Ext h g → Ctr Tryz.prog 57 [.agg u, vL, .int .i64 fr] g fun x h' => ∃ us, x = .agg us ∧ CoF (fun b => g.next ≤ unPa b) h' (reC (plF l fr) d') us ∧ Ext g h' := by
      intro i d d' u g hi hd hu hg
      have h1 := size_idx hi
      have h2 := fits_at f5 hi
      rcases hd with rfl | ⟨n, rfl⟩
      · exact ren_ctr N d' (by omega) h2 u g hu l vL fr fr0 fr1 hll (HL.ext hg)
      · exact ren_ctr N (d.setN n) (by rw [size_setN]; omega) (fit_setN h2) u g hu l vL fr fr0 fr1 hll (HL.ext hg)
    refine c57_ctr rfl (wpK_of ?_)
    unfold c57
    have e1 : Ext h ((h.new (.ofL [.int .i64 c.k, .int .i64 c.x, .int .i64 c.n, .str c.s, va, vt, vl] 0 false)).new (.ofL [.int .i64 0, .int .i64 0, .int .i64 0, .str [], .nilslice, .nilslice, .nilslice] 0 false)) := ((Ext.refl h).new _).new _
    have g1 : ((h.new (.ofL [.int .i64 c.k, .int .i64 c.x, .int .i64 c.n, .str c.s, va, vt, vl] 0 false)).new (.ofL [.int .i64 0, .int .i64 0, .int .i64 0, .str [], .nilslice, .nilslice, .nilslice] 0 false)).get (pa h.next) = (.ofL [.int .i64 c.k, .int .i64 c.x, .int .i64 c.n, .str c.s, va, vt, vl] 0 false) := by
      rw [get_new, if_neg (by rw [pa_eq, next_new]; omega), get_new_self]
    have z1 : ((h.new (.ofL [.int .i64 c.k, .int .i64 c.x, .int .i64 c.n, .str c.s, va, vt, vl] 0 false)).new (.ofL [.int .i64 0, .int .i64 0, .int .i64 0, .str [], .nilslice, .nilslice, .nilslice] 0 false)).get (pa (h.next + 1)) = (.ofL [.int .i64 0, .int .i64 0, .int .i64 0, .str [], .nilslice, .nilslice, .nilslice] 0 false) := by
      rw [get_new, if_pos (by rw [next_new])]
    have n1 : ((h.new (.ofL [.int .i64 c.k, .int .i64 c.x, .int .i64 c.n, .str c.s, va, vt, vl] 0 false)).new (.ofL [.int .i64 0, .int .i64 0, .int .i64 0, .str [], .nilslice, .nilslice, .nilslice] 0 false)).next = h.next + 2 := by rw [next_new, next_new]
    have done : ∀ (x' : Int) (g' : Heap) (wa wl : V) (us : List (List V)), (if bindsX c.k then plF l fr c.x else c.x) = x' → RenS h [.int .i64 c.k, .int .i64 x', .int .i64 c.n, .str c.s, va, vt, vl] g' → SlO (h.next + 2) g' 3 wa (c.a.map (reA (plF l fr))).length (atsV (c.a.map (reA (plF l fr)))) → SlO (h.next + 2) g' 7 wl c.l.length us.flatten → us.length = c.l.length → (∀ b, wl.blk b → ¬ wa.blk b) →
        (∀ (j : Nat) (d : Co) (u : List V), (reCs (plF l fr) (decide (c.k = 8)) c.l)[j]? = some d → us[j]? = some u → CoF (fun b => h.next + 2 ≤ unPa b ∧ ¬ wl.blk b) g' d u) →
        ∃ vt' g5, appV 1 (.slice (pa g'.next) 0 0 0) vt (((g'.set (pa h.next) (.ofL [.int .i64 c.k, .int .i64 x', .int .i64 c.n, .str c.s, wa, vt, vl] 0 false)).set (pa h.next) (.ofL [.int .i64 c.k, .int .i64 x', .int .i64 c.n, .str c.s, wa, vt, wl] 0 false)).new (.ofL [] 0 false)) = .val vt' g5 ∧ vt'.one = true ∧ vt'.cells = [vt'] ∧ wa.one = true ∧ wl.one = true ∧ wa.cells = [wa] ∧ wl.cells = [wl] ∧
          g5.get (pa h.next) = (.ofL [.int .i64 c.k, .int .i64 x', .int .i64 c.n, .str c.s, wa, vt, wl] 0 false) ∧ g5.get (pa (h.next + 1)) = (.ofL [.int .i64 0, .int .i64 0, .int .i64 0, .str [], .nilslice, .nilslice, .nilslice] 0 false) ∧
          CoF (fun b => h.next ≤ unPa b) ((g5.set (pa h.next) (.ofL [.int .i64 c.k, .int .i64 x', .int .i64 c.n, .str c.s, wa, vt', wl] 0 false)).set (pa (h.next + 1)) (.ofL [.int .i64 c.k, .int .i64 x', .int .i64 c.n, .str c.s, wa, vt', wl] 0 false)) (reC (plF l fr) c) [.int .i64 c.k, .int .i64 x', .int .i64 c.n, .str c.s, wa, vt', wl] ∧ Ext h ((g5.set (pa h.next) (.ofL [.int .i64 c.k, .int .i64 x', .int .i64 c.n, .str c.s, wa, vt', wl] 0 false)).set (pa (h.next + 1)) (.ofL [.int .i64 c.k, .int .i64 x', .int .i64 c.n, .str c.s, wa, vt', wl] 0 false)) := by
      intro x' g' wa wl us hx S Pwa Pwl hul hd hk
      have hn := S.n
      have m1 : Mod (fun b => b = pa h.next ∨ b = pa (h.next + 1)) g' ((g'.set (pa h.next) (.ofL [.int .i64 c.k, .int .i64 x', .int .i64 c.n, .str c.s, wa, vt, vl] 0 false)).set (pa h.next) (.ofL [.int .i64 c.k, .int .i64 x', .int .i64 c.n, .str c.s, wa, vt, wl] 0 false)) := ((Mod.refl (fun b => b = pa h.next ∨ b = pa (h.next + 1)) g').set (fun _ => .inl rfl) _).set (fun _ => .inl rfl) _
      have hM : ∀ b, (b = pa h.next ∨ b = pa (h.next + 1)) → h.next ≤ unPa b ∧ unPa b < h.next + 2 := fun b q => by rcases q with q | q <;> (rw [q, unPa_pa]; omega)
      have E1 : Ext h ((g'.set (pa h.next) (.ofL [.int .i64 c.k, .int .i64 x', .int .i64 c.n, .str c.s, wa, vt, vl] 0 false)).set (pa h.next) (.ofL [.int .i64 c.k, .int .i64 x', .int .i64 c.n, .str c.s, wa, vt, wl] 0 false)) := S.ext.mod_new m1 (fun b q => (hM b q).1)
      have n2 : ((g'.set (pa h.next) (.ofL [.int .i64 c.k, .int .i64 x', .int .i64 c.n, .str c.s, wa, vt, vl] 0 false)).set (pa h.next) (.ofL [.int .i64 c.k, .int .i64 x', .int .i64 c.n, .str c.s, wa, vt, wl] 0 false)).next = g'.next := by rw [next_set, next_set]
      have G2 : ((g'.set (pa h.next) (.ofL [.int .i64 c.k, .int .i64 x', .int .i64 c.n, .str c.s, wa, vt, vl] 0 false)).set (pa h.next) (.ofL [.int .i64 c.k, .int .i64 x', .int .i64 c.n, .str c.s, wa, vt, wl] 0 false)).get (pa h.next) = (.ofL [.int .i64 c.k, .int .i64 x', .int .i64 c.n, .str c.s, wa, vt, wl] 0 false) := by rw [get_set, if_pos rfl]
      have Z2 : ((g'.set (pa h.next) (.ofL [.int .i64 c.k, .int .i64 x', .int .i64 c.n, .str c.s, wa, vt, vl] 0 false)).set (pa h.next) (.ofL [.int .i64 c.k, .int .i64 x', .int .i64 c.n, .str c.s, wa, vt, wl] 0 false)).get (pa (h.next + 1)) = (.ofL [.int .i64 0, .int .i64 0, .int .i64 0, .str [], .nilslice, .nilslice, .nilslice] 0 false) := by rw [get_set, if_neg (by rw [pa_eq]; omega), get_set, if_neg (by rw [pa_eq]; omega)]; exact S.b6
      generalize ((g'.set (pa h.next) (.ofL [.int .i64 c.k, .int .i64 x', .int .i64 c.n, .str c.s, wa, vt, vl] 0 false)).set (pa h.next) (.ofL [.int .i64 c.k, .int .i64 x', .int .i64 c.n, .str c.s, wa, vt, wl] 0 false)) = H2 at *
      have es : Ext H2 (H2.new (.ofL [] 0 false)) := (Ext.refl H2).new _
      obtain ⟨vt', g5, p1, p2, p3, p4⟩ := app_own (B := H2.next) (size := 1) (by omega) (SlO.empty (h := H2) 1 (by omega)) ((Ht.ext E1).ext es) (by rw [next_new]; omega) (by unfold top; omega) (intsV_ones c.t)
      have e2 : Ext H2 g5 := es.mod_new p3 (fun b hb => by
        have : b = pa H2.next := hb
        rw [this, unPa_pa]; exact Nat.le_refl _)
      rw [List.nil_append, Nat.zero_add] at p2
      rw [n2] at p1
      have m5 : Mod (fun b => b = pa h.next ∨ b = pa (h.next + 1)) g5 ((g5.set (pa h.next) (.ofL [.int .i64 c.k, .int .i64 x', .int .i64 c.n, .str c.s, wa, vt', wl] 0 false)).set (pa (h.next + 1)) (.ofL [.int .i64 c.k, .int .i64 x', .int .i64 c.n, .str c.s, wa, vt', wl] 0 false)) := ((Mod.refl (fun b => b = pa h.next ∨ b = pa (h.next + 1)) g5).set (fun _ => .inl rfl) _).set (fun _ => .inr rfl) _
      have mall : Mod (fun b => b = pa h.next ∨ b = pa (h.next + 1)) g' ((g5.set (pa h.next) (.ofL [.int .i64 c.k, .int .i64 x', .int .i64 c.n, .str c.s, wa, vt', wl] 0 false)).set (pa (h.next + 1)) (.ofL [.int .i64 c.k, .int .i64 x', .int .i64 c.n, .str c.s, wa, vt', wl] 0 false)) := (m1.trans (e2.mod _)).trans m5
      refine ⟨vt', g5, p1, p2.v.one.1, p2.v.one.2.1, Pwa.v.one.1, Pwl.v.one.1, Pwa.v.one.2.1, Pwl.v.one.2.1, by rw [e2.get _ (old_lt (by omega))]; exact G2, by rw [e2.get _ (old_lt (by omega))]; exact Z2, ?_, S.ext.mod_new mall (fun b q => (hM b q).1)⟩
      have nn : ∀ b, h.next + 2 ≤ unPa b → ¬ (b = pa h.next ∨ b = pa (h.next + 1)) := fun b q q' => by have := hM b q'; omega
      have Pwa' := Pwa.mod mall (fun b q => nn b (Pwa.base q))
      have Pwl' := Pwl.mod mall (fun b q => nn b (Pwl.base q))
      have Pt' := p2.mod m5 (fun b q => nn b (by have := p2.base q; omega))
      have : reC (plF l fr) c = .mk c.k x' c.n c.s (c.a.map (reA (plF l fr))) c.t (reCs (plF l fr) (decide (c.k = 8)) c.l) := by rw [← hx]; cases c; rfl
      rw [this]
      refine .mk Pwa'.v Pt'.v (roomV_of Pwl') (by rw [reCs_len]; exact Pwl'.v) (by rw [reCs_len]; exact hul) (fun j d u q1 q2 => (hk j d u q1 q2).mod mall (fun b f o => ⟨nn b f.1, by omega⟩)) (fun b q => by have := Pwa.base q; omega) (fun b q => by have := p2.base q; omega) (fun b q => by have := Pwl.base q; omega)
    simp +contextual only [↓wA, wC, Ex.ends, evR, oneOf, top, ↓reduceIte, Nat.reduceEqDiff, Nat.reduceLeDiff, Nat.reduceAdd, Nat.reduceSub, Nat.reduceMul, reduceCtorEq, Int.reduceEq, Int.reduceLT, Int.reduceLE, Int.reduceNeg]
    generalize ((h.new (.ofL [.int .i64 c.k, .int .i64 c.x, .int .i64 c.n, .str c.s, va, vt, vl] 0 false)).new (.ofL [.int .i64 0, .int .i64 0, .int .i64 0, .str [], .nilslice, .nilslice, .nilslice] 0 false)) = H1 at *
    by_cases h2 : c.k = 2
    · have e2k := eq_true h2
      simp +contextual only [e2k, g1, z1, ↓wA, wC, Ex.ends, evR, oneOf, top, ↓reduceIte, Nat.reduceEqDiff, Nat.reduceLeDiff, Nat.reduceAdd, Nat.reduceSub, Nat.reduceMul, reduceCtorEq, Int.reduceEq, Int.reduceLT, Int.reduceLE, Int.reduceNeg]
      refine callK_intro (place_ctr l c.x vL H1 (HL.ext e1) (by omega)) ?_
      rintro x h2 ⟨rfl, q⟩
      rw [q]
      clear q h2
      have wp := w_plF fr0 fr1 hll c.x
      have m3 : Mod (fun b => b = pa h.next) H1 (H1.set (pa h.next) (.ofL [.int .i64 c.k, .int .i64 (plF l fr c.x), .int .i64 c.n, .str c.s, va, vt, vl] 0 false)) := (Mod.refl (fun b => b = pa h.next) H1).set (fun _ => rfl) _
      have S3 : RenS h [.int .i64 c.k, .int .i64 (plF l fr c.x), .int .i64 c.n, .str c.s, va, vt, vl] (H1.set (pa h.next) (.ofL [.int .i64 c.k, .int .i64 (plF l fr c.x), .int .i64 c.n, .str c.s, va, vt, vl] 0 false)) := ⟨e1.mod_new m3 (fun b q => by rw [q, unPa_pa]; omega), by rw [next_set]; omega, by rw [get_set, if_pos rfl], by rw [get_set, if_neg (by rw [pa_eq]; omega)]; exact z1⟩
      simp +contextual only [e2k, wp, g1, z1, ↓wA, wC, Ex.ends, evR, oneOf, top, ↓reduceIte, Nat.reduceEqDiff, Nat.reduceLeDiff, Nat.reduceAdd, Nat.reduceSub, Nat.reduceMul, reduceCtorEq, Int.reduceEq, Int.reduceLT, Int.reduceLE, Int.reduceNeg]
      refine renA (c := c) (k := c.k) (x' := plF l fr c.x) (n := c.n) (s := c.s) (va := va) (vt := vt) (vl := vl) fr0 fr1 hll HL Ha (by omega) _ _ _ _ S3 (by simp only [↓wA, wC, ↓reduceIte, Nat.reduceEqDiff, reduceCtorEq]) (by simp only [↓wA, wC, ↓reduceIte, Nat.reduceEqDiff, reduceCtorEq]) (by simp only [↓wA, wC, ↓reduceIte, Nat.reduceEqDiff, reduceCtorEq]) (by simp only [↓wA, wC, ↓reduceIte, Nat.reduceEqDiff, reduceCtorEq]) (by simp only [↓wA, wC, ↓reduceIte, Nat.reduceEqDiff, reduceCtorEq]) (by simp only [↓wA, wC, ↓reduceIte, Nat.reduceEqDiff, reduceCtorEq]) ?_
      intro g3 wa r3 S4 Pwa a1 a2 a3 a6 a8
      simp +contextual only [a1, a2, a3, a6, a8, ↓wA, wC, Ex.ends, evR, oneOf, top, ↓reduceIte, Nat.reduceEqDiff, Nat.reduceLeDiff, Nat.reduceAdd, Nat.reduceSub, Nat.reduceMul, reduceCtorEq, Int.reduceEq, Int.reduceLT, Int.reduceLE, Int.reduceNeg]
      refine renB (c := c) (x' := plF l fr c.x) (n := c.n) (s := c.s) (va := va) (vt := vt) (vl := vl) (wa := wa) fr0 fr1 hll HL Hl (by omega) _ _ _ _ S4 Pwa kid (by simp only [a1, ↓wA, wC, ↓reduceIte, Nat.reduceEqDiff, reduceCtorEq]) (by simp only [a2, ↓wA, wC, ↓reduceIte, Nat.reduceEqDiff, reduceCtorEq]) (by simp only [a3, ↓wA, wC, ↓reduceIte, Nat.reduceEqDiff, reduceCtorEq]) (by simp only [a6, ↓wA, wC, ↓reduceIte, Nat.reduceEqDiff, reduceCtorEq]) (by simp only [a8, ↓wA, wC, ↓reduceIte, Nat.reduceEqDiff, reduceCtorEq]) (by simp only [↓wA, wC, ↓reduceIte, Nat.reduceEqDiff, reduceCtorEq]) (by simp only [↓wA, wC, ↓reduceIte, Nat.reduceEqDiff, reduceCtorEq]) ?_
      intro g4 wl us r4 S5 Pwa2 Pwl hul hd hk b3 b6 b8 b11
      obtain ⟨vt', g5, t1, t2, t3, t4, t5, t6, t7, t8, t9, t10, t11⟩ := done (plF l fr c.x) g4 wa wl us (by rw [if_pos (by simp [bindsX, h2])]) S5 Pwa2 Pwl hul hd hk
      have n5 : (g4.next = h.next) = False := eq_false (by have := S5.n; omega)
      simp +contextual only [b3, b6, b8, b11, S5.b3, S5.b6, n5, t1, t2, t3, t4, t5, t6, t7, t8, t9, ↓wA, wC, Ex.ends, evR, oneOf, top, ↓reduceIte, Nat.reduceEqDiff, Nat.reduceLeDiff, Nat.reduceAdd, Nat.reduceSub, Nat.reduceMul, reduceCtorEq, Int.reduceEq, Int.reduceLT, Int.reduceLE, Int.reduceNeg]
      exact ⟨_, rfl, t10, t11⟩
    have e2k := eq_false h2
    by_cases h11 : c.k = 11
    · have e11 := eq_true h11
      simp +contextual only [e2k, e11, g1, z1, ↓wA, wC, Ex.ends, evR, oneOf, top, ↓reduceIte, Nat.reduceEqDiff, Nat.reduceLeDiff, Nat.reduceAdd, Nat.reduceSub, Nat.reduceMul, reduceCtorEq, Int.reduceEq, Int.reduceLT, Int.reduceLE, Int.reduceNeg]
      refine callK_intro (place_ctr l c.x vL H1 (HL.ext e1) (by omega)) ?_
      rintro x h2 ⟨rfl, q⟩
      rw [q]
      clear q h2
      have wp := w_plF fr0 fr1 hll c.x
      have m3 : Mod (fun b => b = pa h.next) H1 (H1.set (pa h.next) (.ofL [.int .i64 c.k, .int .i64 (plF l fr c.x), .int .i64 c.n, .str c.s, va, vt, vl] 0 false)) := (Mod.refl (fun b => b = pa h.next) H1).set (fun _ => rfl) _
      have S3 : RenS h [.int .i64 c.k, .int .i64 (plF l fr c.x), .int .i64 c.n, .str c.s, va, vt, vl] (H1.set (pa h.next) (.ofL [.int .i64 c.k, .int .i64 (plF l fr c.x), .int .i64 c.n, .str c.s, va, vt, vl] 0 false)) := ⟨e1.mod_new m3 (fun b q => by rw [q, unPa_pa]; omega), by rw [next_set]; omega, by rw [get_set, if_pos rfl], by rw [get_set, if_neg (by rw [pa_eq]; omega)]; exact z1⟩
      simp +contextual only [e2k, e11, wp, g1, z1, ↓wA, wC, Ex.ends, evR, oneOf, top, ↓reduceIte, Nat.reduceEqDiff, Nat.reduceLeDiff, Nat.reduceAdd, Nat.reduceSub, Nat.reduceMul, reduceCtorEq, Int.reduceEq, Int.reduceLT, Int.reduceLE, Int.reduceNeg]
      refine renA (c := c) (k := c.k) (x' := plF l fr c.x) (n := c.n) (s := c.s) (va := va) (vt := vt) (vl := vl) fr0 fr1 hll HL Ha (by omega) _ _ _ _ S3 (by simp only [↓wA, wC, ↓reduceIte, Nat.reduceEqDiff, reduceCtorEq]) (by simp only [↓wA, wC, ↓reduceIte, Nat.reduceEqDiff, reduceCtorEq]) (by simp only [↓wA, wC, ↓reduceIte, Nat.reduceEqDiff, reduceCtorEq]) (by simp only [↓wA, wC, ↓reduceIte, Nat.reduceEqDiff, reduceCtorEq]) (by simp only [↓wA, wC, ↓reduceIte, Nat.reduceEqDiff, reduceCtorEq]) (by simp only [↓wA, wC, ↓reduceIte, Nat.reduceEqDiff, reduceCtorEq]) ?_
      intro g3 wa r3 S4 Pwa a1 a2 a3 a6 a8
      simp +contextual only [a1, a2, a3, a6, a8, ↓wA, wC, Ex.ends, evR, oneOf, top, ↓reduceIte, Nat.reduceEqDiff, Nat.reduceLeDiff, Nat.reduceAdd, Nat.reduceSub, Nat.reduceMul, reduceCtorEq, Int.reduceEq, Int.reduceLT, Int.reduceLE, Int.reduceNeg]
      refine renB (c := c) (x' := plF l fr c.x) (n := c.n) (s := c.s) (va := va) (vt := vt) (vl := vl) (wa := wa) fr0 fr1 hll HL Hl (by omega) _ _ _ _ S4 Pwa kid (by simp only [a1, ↓wA, wC, ↓reduceIte, Nat.reduceEqDiff, reduceCtorEq]) (by simp only [a2, ↓wA, wC, ↓reduceIte, Nat.reduceEqDiff, reduceCtorEq]) (by simp only [a3, ↓wA, wC, ↓reduceIte, Nat.reduceEqDiff, reduceCtorEq]) (by simp only [a6, ↓wA, wC, ↓reduceIte, Nat.reduceEqDiff, reduceCtorEq]) (by simp only [a8, ↓wA, wC, ↓reduceIte, Nat.reduceEqDiff, reduceCtorEq]) (by simp only [↓wA, wC, ↓reduceIte, Nat.reduceEqDiff, reduceCtorEq]) (by simp only [↓wA, wC, ↓reduceIte, Nat.reduceEqDiff, reduceCtorEq]) ?_
      intro g4 wl us r4 S5 Pwa2 Pwl hul hd hk b3 b6 b8 b11
      obtain ⟨vt', g5, t1, t2, t3, t4, t5, t6, t7, t8, t9, t10, t11⟩ := done (plF l fr c.x) g4 wa wl us (by rw [if_pos (by simp [bindsX, h11])]) S5 Pwa2 Pwl hul hd hk
      have n5 : (g4.next = h.next) = False := eq_false (by have := S5.n; omega)
      simp +contextual only [b3, b6, b8, b11, S5.b3, S5.b6, n5, t1, t2, t3, t4, t5, t6, t7, t8, t9, ↓wA, wC, Ex.ends, evR, oneOf, top, ↓reduceIte, Nat.reduceEqDiff, Nat.reduceLeDiff, Nat.reduceAdd, Nat.reduceSub, Nat.reduceMul, reduceCtorEq, Int.reduceEq, Int.reduceLT, Int.reduceLE, Int.reduceNeg]
      exact ⟨_, rfl, t10, t11⟩
    have e11 := eq_false h11
    by_cases h7 : c.k = 7
    · have e7 := eq_true h7
      simp +contextual only [e2k, e11, e7, g1, z1, ↓wA, wC, Ex.ends, evR, oneOf, top, ↓reduceIte, Nat.reduceEqDiff, Nat.reduceLeDiff, Nat.reduceAdd, Nat.reduceSub, Nat.reduceMul, reduceCtorEq, Int.reduceEq, Int.reduceLT, Int.reduceLE, Int.reduceNeg]
      refine callK_intro (place_ctr l c.x vL H1 (HL.ext e1) (by omega)) ?_
      rintro x h2 ⟨rfl, q⟩
      rw [q]
      clear q h2
      have wp := w_plF fr0 fr1 hll c.x
      have m3 : Mod (fun b => b = pa h.next) H1 (H1.set (pa h.next) (.ofL [.int .i64 c.k, .int .i64 (plF l fr c.x), .int .i64 c.n, .str c.s, va, vt, vl] 0 false)) := (Mod.refl (fun b => b = pa h.next) H1).set (fun _ => rfl) _
      have S3 : RenS h [.int .i64 c.k, .int .i64 (plF l fr c.x), .int .i64 c.n, .str c.s, va, vt, vl] (H1.set (pa h.next) (.ofL [.int .i64 c.k, .int .i64 (plF l fr c.x), .int .i64 c.n, .str c.s, va, vt, vl] 0 false)) := ⟨e1.mod_new m3 (fun b q => by rw [q, unPa_pa]; omega), by rw [next_set]; omega, by rw [get_set, if_pos rfl], by rw [get_set, if_neg (by rw [pa_eq]; omega)]; exact z1⟩
      simp +contextual only [e2k, e11, e7, wp, g1, z1, ↓wA, wC, Ex.ends, evR, oneOf, top, ↓reduceIte, Nat.reduceEqDiff, Nat.reduceLeDiff, Nat.reduceAdd, Nat.reduceSub, Nat.reduceMul, reduceCtorEq, Int.reduceEq, Int.reduceLT, Int.reduceLE, Int.reduceNeg]
      refine renA (c := c) (k := c.k) (x' := plF l fr c.x) (n := c.n) (s := c.s) (va := va) (vt := vt) (vl := vl) fr0 fr1 hll HL Ha (by omega) _ _ _ _ S3 (by simp only [↓wA, wC, ↓reduceIte, Nat.reduceEqDiff, reduceCtorEq]) (by simp only [↓wA, wC, ↓reduceIte, Nat.reduceEqDiff, reduceCtorEq]) (by simp only [↓wA, wC, ↓reduceIte, Nat.reduceEqDiff, reduceCtorEq]) (by simp only [↓wA, wC, ↓reduceIte, Nat.reduceEqDiff, reduceCtorEq]) (by simp only [↓wA, wC, ↓reduceIte, Nat.reduceEqDiff, reduceCtorEq]) (by simp only [↓wA, wC, ↓reduceIte, Nat.reduceEqDiff, reduceCtorEq]) ?_
      intro g3 wa r3 S4 Pwa a1 a2 a3 a6 a8
      simp +contextual only [a1, a2, a3, a6, a8, ↓wA, wC, Ex.ends, evR, oneOf, top, ↓reduceIte, Nat.reduceEqDiff, Nat.reduceLeDiff, Nat.reduceAdd, Nat.reduceSub, Nat.reduceMul, reduceCtorEq, Int.reduceEq, Int.reduceLT, Int.reduceLE, Int.reduceNeg]
      refine renB (c := c) (x' := plF l fr c.x) (n := c.n) (s := c.s) (va := va) (vt := vt) (vl := vl) (wa := wa) fr0 fr1 hll HL Hl (by omega) _ _ _ _ S4 Pwa kid (by simp only [a1, ↓wA, wC, ↓reduceIte, Nat.reduceEqDiff, reduceCtorEq]) (by simp only [a2, ↓wA, wC, ↓reduceIte, Nat.reduceEqDiff, reduceCtorEq]) (by simp only [a3, ↓wA, wC, ↓reduceIte, Nat.reduceEqDiff, reduceCtorEq]) (by simp only [a6, ↓wA, wC, ↓reduceIte, Nat.reduceEqDiff, reduceCtorEq]) (by simp only [a8, ↓wA, wC, ↓reduceIte, Nat.reduceEqDiff, reduceCtorEq]) (by simp only [↓wA, wC, ↓reduceIte, Nat.reduceEqDiff, reduceCtorEq]) (by simp only [↓wA, wC, ↓reduceIte, Nat.reduceEqDiff, reduceCtorEq]) ?_
      intro g4 wl us r4 S5 Pwa2 Pwl hul hd hk b3 b6 b8 b11
      obtain ⟨vt', g5, t1, t2, t3, t4, t5, t6, t7, t8, t9, t10, t11⟩ := done (plF l fr c.x) g4 wa wl us (by rw [if_pos (by simp [bindsX, h7])]) S5 Pwa2 Pwl hul hd hk
      have n5 : (g4.next = h.next) = False := eq_false (by have := S5.n; omega)
      simp +contextual only [b3, b6, b8, b11, S5.b3, S5.b6, n5, t1, t2, t3, t4, t5, t6, t7, t8, t9, ↓wA, wC, Ex.ends, evR, oneOf, top, ↓reduceIte, Nat.reduceEqDiff, Nat.reduceLeDiff, Nat.reduceAdd, Nat.reduceSub, Nat.reduceMul, reduceCtorEq, Int.reduceEq, Int.reduceLT, Int.reduceLE, Int.reduceNeg]
      exact ⟨_, rfl, t10, t11⟩
    have e7 := eq_false h7
    have S3 : RenS h [.int .i64 c.k, .int .i64 c.x, .int .i64 c.n, .str c.s, va, vt, vl] H1 := ⟨e1, by omega, g1, z1⟩
    simp +contextual only [e2k, e11, e7, g1, z1, ↓wA, wC, Ex.ends, evR, oneOf, top, ↓reduceIte, Nat.reduceEqDiff, Nat.reduceLeDiff, Nat.reduceAdd, Nat.reduceSub, Nat.reduceMul, reduceCtorEq, Int.reduceEq, Int.reduceLT, Int.reduceLE, Int.reduceNeg]
    refine renA (c := c) (k := c.k) (x' := c.x) (n := c.n) (s := c.s) (va := va) (vt := vt) (vl := vl) fr0 fr1 hll HL Ha (by omega) _ _ _ _ S3 (by simp only [↓wA, wC, ↓reduceIte, Nat.reduceEqDiff, reduceCtorEq]) (by simp only [↓wA, wC, ↓reduceIte, Nat.reduceEqDiff, reduceCtorEq]) (by simp only [↓wA, wC, ↓reduceIte, Nat.reduceEqDiff, reduceCtorEq]) (by simp only [↓wA, wC, ↓reduceIte, Nat.reduceEqDiff, reduceCtorEq]) (by simp only [↓wA, wC, ↓reduceIte, Nat.reduceEqDiff, reduceCtorEq]) (by simp only [↓wA, wC, ↓reduceIte, Nat.reduceEqDiff, reduceCtorEq]) ?_
    intro g3 wa r3 S4 Pwa a1 a2 a3 a6 a8
    simp +contextual only [a1, a2, a3, a6, a8, ↓wA, wC, Ex.ends, evR, oneOf, top, ↓reduceIte, Nat.reduceEqDiff, Nat.reduceLeDiff, Nat.reduceAdd, Nat.reduceSub, Nat.reduceMul, reduceCtorEq, Int.reduceEq, Int.reduceLT, Int.reduceLE, Int.reduceNeg]
    refine renB (c := c) (x' := c.x) (n := c.n) (s := c.s) (va := va) (vt := vt) (vl := vl) (wa := wa) fr0 fr1 hll HL Hl (by omega) _ _ _ _ S4 Pwa kid (by simp only [a1, ↓wA, wC, ↓reduceIte, Nat.reduceEqDiff, reduceCtorEq]) (by simp only [a2, ↓wA, wC, ↓reduceIte, Nat.reduceEqDiff, reduceCtorEq]) (by simp only [a3, ↓wA, wC, ↓reduceIte, Nat.reduceEqDiff, reduceCtorEq]) (by simp only [a6, ↓wA, wC, ↓reduceIte, Nat.reduceEqDiff, reduceCtorEq]) (by simp only [a8, ↓wA, wC, ↓reduceIte, Nat.reduceEqDiff, reduceCtorEq]) (by simp only [↓wA, wC, ↓reduceIte, Nat.reduceEqDiff, reduceCtorEq]) (by simp only [↓wA, wC, ↓reduceIte, Nat.reduceEqDiff, reduceCtorEq]) ?_
    intro g4 wl us r4 S5 Pwa2 Pwl hul hd hk b3 b6 b8 b11
    obtain ⟨vt', g5, t1, t2, t3, t4, t5, t6, t7, t8, t9, t10, t11⟩ := done (c.x) g4 wa wl us (by rw [if_neg (by simp [bindsX, h2, h11, h7])]) S5 Pwa2 Pwl hul hd hk
    have n5 : (g4.next = h.next) = False := eq_false (by have := S5.n; omega)
    simp +contextual only [b3, b6, b8, b11, S5.b3, S5.b6, n5, t1, t2, t3, t4, t5, t6, t7, t8, t9, ↓wA, wC, Ex.ends, evR, oneOf, top, ↓reduceIte, Nat.reduceEqDiff, Nat.reduceLeDiff, Nat.reduceAdd, Nat.reduceSub, Nat.reduceMul, reduceCtorEq, Int.reduceEq, Int.reduceLT, Int.reduceLE, Int.reduceNeg]
    exact ⟨_, rfl, t10, t11⟩
end Go.Proofs.YtjbiefneffiogaaGreat

namespace Go.Proofs.YtjbiefneffiogaaGreat
open Go Am
theorem store_lay {h h' : Heap} {n : Nat} {b : Pa} {off : Nat} {y : V} (e : storeV n h (.ptr b off) y = some h') : layB n h b off y (h.get b) = some h' := by
  rw [← store_ptr]; exact e
theorem splice_drop {A W : List V} {o k : Nat} (h : o + W.length ≤ k) (ha : k ≤ A.length) : (splice A o W).drop k = A.drop k := by
  unfold splice
  rw [List.drop_append, List.drop_eq_nil_of_le (by rw [List.length_append, List.length_take]; omega), List.nil_append, List.drop_drop]
  congr 1
  rw [List.length_append, List.length_take]
  omega
set_option maxHeartbeats 4000000 in
theorem over_ctr : ∀ (N : Nat) (c : Co), size c ≤ N → fit 1048576 c → ∀ (vs : List V) (F : Pa → Prop) (h : Heap), CoS h F c vs → (∀ b, F b → Old h b) → Ctr Tryz.prog 31 [.agg vs] h fun x h' => Mod F h h'
  | 0, c, hs, _, _, _, _, _, _ => by have := size_pos c; omega
  | N + 1, .mk k x n s a t l, hs, hf, vs, F, h, H, hF => by
    obtain ⟨f1, f2, f3, f4, f5, f6⟩ := hf
    simp only [size] at hs
    cases H with
    | @mk _ _ _ _ _ _ _ _ va vt vl us G ha ht hl hu kids fa ft fl fk dl da dk =>
    refine c31_ctr rfl (wpK_of ?_)
    unfold c31
    have e0 : Ext h (h.new (.ofL [.int .i64 k, .int .i64 x, .int .i64 n, .str s, va, vt, vl] 0 false)) := (Ext.refl h).new _
    have cb : (h.new (.ofL [.int .i64 k, .int .i64 x, .int .i64 n, .str s, va, vt, vl] 0 false)).get (pa h.next) = .ofL [.int .i64 k, .int .i64 x, .int .i64 n, .str s, va, vt, vl] 0 false := get_new_self _
    have cn : (h.new (.ofL [.int .i64 k, .int .i64 x, .int .i64 n, .str s, va, vt, vl] 0 false)).next = h.next + 1 := next_new _ _
    have hbF : ¬ F (pa h.next) := fun q => by have := hF _ q; unfold Old at this; rw [unPa_pa] at this; omega
    simp +contextual only [↓wA, wC, Ex.ends, evR, oneOf, top, ↓reduceIte, Nat.reduceEqDiff, Nat.reduceLeDiff, Nat.reduceAdd, Nat.reduceSub, Nat.reduceMul, reduceCtorEq, Int.reduceEq, Int.reduceLT, Int.reduceLE, Int.reduceNeg]
    generalize h.new (.ofL [.int .i64 k, .int .i64 x, .int .i64 n, .str s, va, vt, vl] 0 false) = H0 at *
    have m0 : Mod F h H0 := e0.mod F
    have box : ∀ g, Mod F H0 g → g.get (pa h.next) = .ofL [.int .i64 k, .int .i64 x, .int .i64 n, .str s, va, vt, vl] 0 false := fun g m => by rw [m.get _ (old_lt (by omega)) hbF]; exact cb
    refine loopK_intro (fun r g => r 1 = .ptr (pa h.next) 0 ∧ ∃ (i : Nat) (ws : List V), r 2 = .int .i64 i ∧ i ≤ a.length ∧ Mod va.blk H0 g ∧ SlO 0 g 3 va a.length ws) (fun r h' => a.length - (r 2).toN) ?_ ?_
    · exact ⟨by simp only [↓wA, wC, ↓reduceIte, Nat.reduceEqDiff, reduceCtorEq], 0, _, by simp only [↓wA, wC, ↓reduceIte, Nat.reduceEqDiff, reduceCtorEq] <;> rfl, by omega, Mod.refl _ _, ha.ext e0⟩
    · rintro r g ⟨r1, i, ws, r2, hi, m1, Pw⟩
      unfold c31l1
      have mF : Mod F H0 g := m1.mono fun b _ q => fa b q
      have bx := box g mF
      have hL := Pw.v.len
      by_cases hlt : i < a.length
      · have g0 : ((i : Int) < (a.length : Int)) = True := eq_true (by omega)
        obtain ⟨b, o, g2, ia, hb, st, Pw2, m2⟩ := Pw.put hlt (k := .i64) (y := .agg [.int .i64 77, .int .i64 0, .str []]) rfl rfl
        have lay := store_lay st
        have wi := w_inc hlt (by omega)
        simp +contextual only [r1, r2, bx, hL, g0, ia, lay, wi, ↓wA, wC, Ex.ends, evR, oneOf, top, ↓reduceIte, Nat.reduceEqDiff, Nat.reduceLeDiff, Nat.reduceAdd, Nat.reduceSub, Nat.reduceMul, reduceCtorEq, Int.reduceEq, Int.reduceLT, Int.reduceLE, Int.reduceNeg]
        exact ⟨⟨i + 1, _, rfl, hlt, m1.trans m2, Pw2⟩, by omega⟩
      · have g0 : ((i : Int) < (a.length : Int)) = False := eq_false (by omega)
        simp +contextual only [r1, r2, bx, hL, g0, ↓wA, wC, Ex.ends, evR, oneOf, top, ↓reduceIte, Nat.reduceEqDiff, Nat.reduceLeDiff, Nat.reduceAdd, Nat.reduceSub, Nat.reduceMul, reduceCtorEq, Int.reduceEq, Int.reduceLT, Int.reduceLE, Int.reduceNeg]
        refine loopK_intro (fun r g => r 1 = .ptr (pa h.next) 0 ∧ ∃ (i : Nat) (ws : List V), r 3 = .int .i64 i ∧ i ≤ t.length ∧ Mod (fun b => va.blk b ∨ vt.blk b) H0 g ∧ SlO 0 g 1 vt t.length ws) (fun r h' => t.length - (r 3).toN) ?_ ?_
        · refine ⟨by simp only [r1, ↓wA, wC, ↓reduceIte, Nat.reduceEqDiff, reduceCtorEq], 0, intsV t, by simp only [↓wA, wC, ↓reduceIte, Nat.reduceEqDiff, reduceCtorEq] <;> rfl, by omega, m1.mono fun b _ q => .inl q, ?_⟩
          exact (ht.ext e0).mod m1 (fun b q => da b q)
        · clear r1 r2 bx hL
          rintro r g ⟨r1, i, ws, r3, hi, m1, Pw⟩
          unfold c31l2
          have mF : Mod F H0 g := m1.mono fun b _ q => q.elim (fa b) (ft b)
          have bx := box g mF
          have hL := Pw.v.len
          by_cases hlt : i < t.length
          · have g0 : ((i : Int) < (t.length : Int)) = True := eq_true (by omega)
            obtain ⟨b, o, g2, ia, hb, st, Pw2, m2⟩ := Pw.put hlt (k := .i64) (y := .int .i64 (-77)) rfl rfl
            have lay := store_lay st
            have wi := w_inc hlt (by omega)
            simp +contextual only [r1, r3, bx, hL, g0, ia, lay, wi, ↓wA, wC, Ex.ends, evR, oneOf, top, ↓reduceIte, Nat.reduceEqDiff, Nat.reduceLeDiff, Nat.reduceAdd, Nat.reduceSub, Nat.reduceMul, reduceCtorEq, Int.reduceEq, Int.reduceLT, Int.reduceLE, Int.reduceNeg]
            exact ⟨⟨i + 1, _, rfl, hlt, m1.trans (m2.mono fun b _ q => .inr q), Pw2⟩, by omega⟩
          · have g0 : ((i : Int) < (t.length : Int)) = False := eq_false (by omega)
            simp +contextual only [r1, r3, bx, hL, g0, ↓wA, wC, Ex.ends, evR, oneOf, top, ↓reduceIte, Nat.reduceEqDiff, Nat.reduceLeDiff, Nat.reduceAdd, Nat.reduceSub, Nat.reduceMul, reduceCtorEq, Int.reduceEq, Int.reduceLT, Int.reduceLE, Int.reduceNeg]
            refine loopK_intro (fun r g => r 1 = .ptr (pa h.next) 0 ∧ ∃ (i : Nat) (ws : List V), r 4 = .int .i64 i ∧ i ≤ l.length ∧ Mod F H0 g ∧ SlO 0 g 7 vl l.length ws ∧ ws.drop (i * 7) = us.flatten.drop (i * 7) ∧ ∀ (j : Nat) (d : Co) (u : List V), i ≤ j → l[j]? = some d → us[j]? = some u → CoS g (G j) d u) (fun r h' => l.length - (r 4).toN) ?_ ?_
            · refine ⟨by simp only [r1, ↓wA, wC, ↓reduceIte, Nat.reduceEqDiff, reduceCtorEq], 0, us.flatten, by simp only [↓wA, wC, ↓reduceIte, Nat.reduceEqDiff, reduceCtorEq] <;> rfl, by omega, mF, (hl.ext e0).mod m1 (fun b q e => e.elim (dl b q).1 (dl b q).2), rfl, fun j d u _ q1 q2 => ?_⟩
              exact ((kids j d u q1 q2).mod (e0.mod fun _ => False) (fun b _ q => q)).mod m1 (fun b f e => e.elim (fk j b (List.getElem?_eq_some_iff.1 q1).1 f).2.2.1 (fk j b (List.getElem?_eq_some_iff.1 q1).1 f).2.2.2)
            · clear r1 r3 bx hL m1 mF Pw hlt g0 hi
              rintro r g ⟨r1, i, ws, r4, hi, mF, Pw, hd, hk⟩
              unfold c31l3
              have bx := box g mF
              have hL := Pw.v.len
              have hl7 : ∀ u ∈ us, u.length = 7 := CosIn.lens hu (fun i c u q1 q2 => (kids i c u q1 q2).co)
              have hfl := flat7_len us hl7
              by_cases hlt : i < l.length
              · have g0 : ((i : Int) < (l.length : Int)) = True := eq_true (by omega)
                have hli : l[i]? = some l[i] := List.getElem?_eq_getElem hlt
                have hui : us[i]? = some us[i] := List.getElem?_eq_getElem (by omega)
                have hu7 := flat7 us i _ hl7 hui
                have hk0 := hk i _ _ (Nat.le_refl _) hli hui
                obtain ⟨b, o, ia, at_⟩ := Pw.v.ia (k := .i64) hlt
                have ld : ldnB 7 (g.get b) (o + i * 7) = some (.agg us[i]) := by
                  rw [at_.ldn (i := i * 7) (n := 7) (by rw [Pw.1]; omega), hd, hu7]
                generalize us[i] = u at *
                simp +contextual only [r1, r4, bx, hL, g0, ia, ld, ↓wA, wC, Ex.ends, evR, oneOf, top, ↓reduceIte, Nat.reduceEqDiff, Nat.reduceLeDiff, Nat.reduceAdd, Nat.reduceSub, Nat.reduceMul, reduceCtorEq, Int.reduceEq, Int.reduceLT, Int.reduceLE, Int.reduceNeg]
                have hsz := size_idx hli
                refine callK_intro (over_ctr N l[i] (by omega) (fits_at f6 hli) u (G i) g hk0 (fun b q => mF.old (m0.old (hF b (fk i b hlt q).1)))) ?_
                rintro y g2 m2
                have Pw2 := Pw.mod m2 (fun b q q' => (fk i b hlt q').2.1 q)
                have mF2 : Mod F H0 g2 := mF.trans (m2.mono fun b _ q => (fk i b hlt q).1)
                have bx2 := box g2 mF2
                obtain ⟨b', o', g3, ia', hb', st, Pw3, m3⟩ := Pw2.put hlt (k := .i64) (y := .agg [.int .i64 77, .int .i64 0, .int .i64 0, .str [], .nilslice, .nilslice, .nilslice]) rfl rfl
                have lay := store_lay st
                have wi := w_inc hlt (by omega)
                simp +contextual only [r1, r4, bx2, ia', lay, wi, ↓wA, wC, Ex.ends, evR, oneOf, top, ↓reduceIte, Nat.reduceEqDiff, Nat.reduceLeDiff, Nat.reduceAdd, Nat.reduceSub, Nat.reduceMul, reduceCtorEq, Int.reduceEq, Int.reduceLT, Int.reduceLE, Int.reduceNeg]
                refine ⟨⟨i + 1, _, rfl, hlt, mF2.trans (m3.mono fun b _ q => fl b q), Pw3, ?_, fun j d u hj q1 q2 => ?_⟩, by omega⟩
                · rw [splice_drop (by rw [show (V.agg [.int .i64 77, .int .i64 0, .int .i64 0, .str [], .nilslice, .nilslice, .nilslice]).cells.length = 7 from rfl]; omega) (by rw [Pw2.1]; omega)]
                  have := congrArg (fun L => List.drop 7 L) hd
                  simp only [List.drop_drop] at this
                  rw [show (i + 1) * 7 = i * 7 + 7 from by omega]
                  exact this
                · have hjl : j < l.length := (List.getElem?_eq_some_iff.1 q1).1
                  refine ((hk j d u (by omega) q1 q2).mod m2 (fun b f e => dk i j b hlt hjl (by omega) e f)).mod m3 (fun b f e => (fk j b hjl f).2.1 e)
              · have g0 : ((i : Int) < (l.length : Int)) = False := eq_false (by omega)
                simp +contextual only [r1, r4, bx, hL, g0, ↓wA, wC, Ex.ends, evR, oneOf, top, ↓reduceIte, Nat.reduceEqDiff, Nat.reduceLeDiff, Nat.reduceAdd, Nat.reduceSub, Nat.reduceMul, reduceCtorEq, Int.reduceEq, Int.reduceLT, Int.reduceLE, Int.reduceNeg]
                exact m0.trans mF
end Go.Proofs.YtjbiefneffiogaaGreat

namespace Go.Proofs.YtjbiefneffiogaaGreat
open Go Am
theorem nodup_of_len : ∀ (l r : List Int), r.Nodup → (∀ z ∈ l, z ∈ r) → (∀ z ∈ r, z ∈ l) → l.length ≤ r.length → l.Nodup
  | [], _, _, _, _, _ => List.nodup_nil
  | x :: l, r, hn, h1, h2, hl => by
    by_cases hx : x ∈ l
    · have := nodup_len (l := r) (m := l) hn fun z hz => by
        rcases List.mem_cons.1 (h2 z hz) with rfl | q
        · exact hx
        · exact q
      simp only [List.length_cons] at hl
      omega
    · have hxr := h1 x (by simp)
      have hlen := List.length_erase_of_mem hxr
      have ih := nodup_of_len l (r.erase x) (hn.erase x) (fun z hz => (List.mem_erase_of_ne (show z ≠ x from fun e => hx (e ▸ hz))).2 (h1 z (by simp [hz])))
        (fun z hz => by
          have hz' := List.mem_of_mem_erase hz
          rcases List.mem_cons.1 (h2 z hz') with rfl | q
          · exact absurd hz (fun q => by have := (List.Nodup.mem_erase_iff hn).1 q; exact this.1 rfl)
          · exact q) (by simp only [List.length_cons] at hl; omega)
      exact List.nodup_cons.2 ⟨hx, ih⟩
theorem placeL_get : ∀ {l : List Int}, l.Nodup → ∀ (i : Nat) (h : i < l.length), placeL l l[i] = i
  | [], _, i, h => by simp at h
  | m :: l, hn, 0, _ => by rw [placeL_cons]; simp
  | m :: l, hn, i + 1, h => by
    obtain ⟨h1, h2⟩ := List.nodup_cons.1 hn
    have hi : i < l.length := by simpa using h
    have hne : ¬ m = l[i] := fun e => h1 (e ▸ List.getElem_mem hi)
    have ih := placeL_get h2 i hi
    rw [placeL_cons, List.getElem_cons_succ, if_neg hne, ih, if_neg (by omega)]
    omega
theorem fit_reCs {m : Nat} (f : Int → Int) (rc : Bool) : ∀ {l : List Co}, fits m (reCs f rc l) ↔ fits m (l.map (reC f))
  | [] => Iff.rfl
  | c :: cs => by
    simp only [reCs, List.map_cons, fits, fit_reCs f rc (l := cs)]
    split
    · constructor
      · rintro ⟨h1, h2⟩
        refine ⟨?_, h2⟩
        cases hc : reC f c with
        | mk k x n s a t l => rw [hc] at h1; exact h1
      · rintro ⟨h1, h2⟩
        exact ⟨fit_setN h1, h2⟩
    · exact Iff.rfl
theorem fit_reC {m : Nat} (f : Int → Int) : ∀ (N : Nat) (c : Co), size c ≤ N → fit m c → fit m (reC f c)
  | 0, c, hs, _ => by have := size_pos c; omega
  | N + 1, .mk k x n s a t l, hs, ⟨h1, h2, h3, h4, h5, h6⟩ => by
    simp only [size] at hs
    refine ⟨h1, by rw [List.length_map]; exact h2, h3, by rw [reCs_len]; exact h4, fun q hq => ?_, ?_⟩
    · obtain ⟨p, hp, rfl⟩ := List.mem_map.1 hq
      have := h5 p hp
      unfold reA
      split <;> exact this
    · rw [fit_reCs]
      refine fits_of_all fun d hd => ?_
      obtain ⟨e, he, rfl⟩ := List.mem_map.1 hd
      obtain ⟨i, hi⟩ := List.getElem?_of_mem he
      have := size_mem he
      exact fit_reC f N e (by omega) (fits_at h6 hi)
def zeroC : Co := .mk 0 0 0 [] [] [] []
def errN (c : Co) (fr : Int) : Int := if checkM c ≠ 0 then checkM c else if fr < 0 ∨ 1048576 - fr < (order c).length then 2 else 0
def renC (c : Co) (fr : Int) : Co := if errN c fr = 0 then reC (plF (order c) fr) c else zeroC
theorem zero_in (h : Heap) (F : Pa → Prop) : CoS h F zeroC [.int .i64 0, .int .i64 0, .int .i64 0, .str [], .nilslice, .nilslice, .nilslice] :=
  .mk (us := []) (fun _ _ => False) ⟨rfl, rfl⟩ ⟨rfl, rfl⟩ ⟨rfl, rfl⟩ rfl (fun i c u q => by simp at q) (fun b q => q.elim) (fun b q => q.elim) (fun b q => q.elim) (fun i b _ q => q.elim) (fun b q => q.elim) (fun b q => q.elim) (fun i j b _ _ _ q => q.elim)
theorem zero_inF (h : Heap) (F : Pa → Prop) : CoF F h zeroC [.int .i64 0, .int .i64 0, .int .i64 0, .str [], .nilslice, .nilslice, .nilslice] :=
  .mk (us := []) ⟨rfl, rfl⟩ ⟨rfl, rfl⟩ (fun b o l c e => by cases e) ⟨rfl, rfl⟩ rfl (fun i c u q => by simp at q) (fun b q => q.elim) (fun b q => q.elim) (fun b q => q.elim)
theorem fit_renC {c : Co} {fr : Int} (hf : fit 1048576 c) : fit 1048576 (renC c fr) := by
  unfold renC
  split
  · exact fit_reC _ (size c) c (Nat.le_refl _) hf
  · exact ⟨by simp, by simp, by simp, by simp, fun q hq => (by cases hq), trivial⟩
theorem check_facts {c : Co} (h : checkM c = 0) : may ownP c = true ∧ (order c).Nodup ∧ free c [] = [] := by
  unfold checkM at h
  by_cases hm : may ownP c = true
  · rw [if_neg (by simp [hm])] at h
    by_cases hl : (order c).length ≠ (rising (order c)).length
    · rw [if_pos hl] at h; omega
    · rw [if_neg hl] at h
      by_cases hf : 0 < (rising (free c [])).length
      · rw [if_pos hf] at h; omega
      · refine ⟨hm, nodup_of_len _ (rising (order c)) ((rising_sorted _).imp (fun q => by omega)) (fun z hz => mem_rising.2 hz) (fun z hz => mem_rising.1 hz) (by omega), ?_⟩
        refine List.eq_nil_iff_forall_not_mem.2 fun z hz => ?_
        have := List.length_pos_of_mem (mem_rising.2 hz)
        omega
  · rw [if_pos (by simpa using hm)] at h; omega
end Go.Proofs.YtjbiefneffiogaaGreat

namespace Go.Proofs.YtjbiefneffiogaaGreat
open Go Am
set_option maxHeartbeats 4000000 in
theorem rRenumber_ctr (c : Co) (vs : List V) (h : Heap) (H : CoIn h c vs) (hw : wt c ≤ 400) (fr : Int) (hfr : fr ≤ 9223372036854775807) :
    Ctr Tryz.prog 30 [.agg vs, .int .i64 fr] h fun x h' => ∃ us, x = .tuple [.agg us, .int .i64 (errN c fr)] ∧ CoF (fun b => h.next ≤ unPa b) h' (renC c fr) us ∧ Ext h h' := by
  have hol := order_small hw
  have hf := fit_of_wt c hw
  obtain ⟨va, vt, vl, rfl, Ha, Ht, Hl⟩ := H.open
  refine c30_ctr rfl (wpK_of ?_)
  unfold c30
  have e0 : Ext h ((h.new (.ofL [.int .i64 c.k, .int .i64 c.x, .int .i64 c.n, .str c.s, va, vt, vl] 0 false)).new (.ofL [.int .i64 0, .int .i64 0, .int .i64 0, .str [], .nilslice, .nilslice, .nilslice] 0 false)) := ((Ext.refl h).new _).new _
  have B0 : Bx h.next (h.next + 1) [.int .i64 c.k, .int .i64 c.x, .int .i64 c.n, .str c.s, va, vt, vl] [.int .i64 0, .int .i64 0, .int .i64 0, .str [], .nilslice, .nilslice, .nilslice] ((h.new (.ofL [.int .i64 c.k, .int .i64 c.x, .int .i64 c.n, .str c.s, va, vt, vl] 0 false)).new (.ofL [.int .i64 0, .int .i64 0, .int .i64 0, .str [], .nilslice, .nilslice, .nilslice] 0 false)) := ⟨by rw [next_new, next_new]; omega, by rw [next_new, next_new]; omega, by rw [get_new, if_neg (by rw [pa_eq, next_new]; omega), get_new_self], by rw [get_new, if_pos (by rw [next_new])]⟩
  have sM : ∀ (g : Heap) (B : Blk), Mod (fun b => b = pa (h.next + 1)) g (g.set (pa (h.next + 1)) B) := fun g B => (Mod.refl (fun b => b = pa (h.next + 1)) g).set (fun _ => rfl) _
  simp +contextual only [↓wA, wC, Ex.ends, evR, oneOf, top, ↓reduceIte, Nat.reduceEqDiff, Nat.reduceLeDiff, Nat.reduceAdd, Nat.reduceSub, Nat.reduceMul, reduceCtorEq, Int.reduceEq, Int.reduceLT, Int.reduceLE, Int.reduceNeg]
  generalize ((h.new (.ofL [.int .i64 c.k, .int .i64 c.x, .int .i64 c.n, .str c.s, va, vt, vl] 0 false)).new (.ofL [.int .i64 0, .int .i64 0, .int .i64 0, .str [], .nilslice, .nilslice, .nilslice] 0 false)) = H0 at *
  refine callK_intro (rCheck_ctr c _ H0 (H.ext e0) hw) ?_
  rintro x h1 ⟨rfl, e1⟩
  have E1 := e0.trans e1
  have B1 := B0.ext e1
  by_cases hc : checkM c = 0
  case neg =>
    have g0 : (checkM c = 0) = False := eq_false hc
    have he : errN c fr = checkM c := by rw [errN, if_pos hc]
    have hr : renC c fr = zeroC := by rw [renC, he, if_neg hc]
    rw [he, hr]
    simp +contextual only [g0, B1.a, B1.b, ↓wA, wC, Ex.ends, evR, oneOf, top, ↓reduceIte, Nat.reduceEqDiff, Nat.reduceLeDiff, Nat.reduceAdd, Nat.reduceSub, Nat.reduceMul, reduceCtorEq, Int.reduceEq, Int.reduceLT, Int.reduceLE, Int.reduceNeg]
    exact ⟨_, rfl, zero_inF _ _, E1.mod_new (sM _ _) (fun b q => by rw [q, unPa_pa]; omega)⟩
  have g0 : (checkM c = 0) = True := eq_true hc
  obtain ⟨hm, hnd, hfree⟩ := check_facts hc
  simp +contextual only [g0, B1.a, B1.b, ↓wA, wC, Ex.ends, evR, oneOf, top, ↓reduceIte, Nat.reduceEqDiff, Nat.reduceLeDiff, Nat.reduceAdd, Nat.reduceSub, Nat.reduceMul, reduceCtorEq, Int.reduceEq, Int.reduceLT, Int.reduceLE, Int.reduceNeg]
  refine callK_intro (rorder_ctr (size c) c (Nat.le_refl _) hf (ok_of hw hm) _ h1 (H.ext E1) h1 [] .nilslice (Ext.refl _) ⟨rfl, rfl⟩ (by simp; omega)) ?_
  rintro vL h2 G2
  have O2 := G2.own; rw [List.nil_append] at O2; have e2 := G2.ext
  have E2 := E1.trans e2
  have B2 := B1.ext e2
  have l2 := O2.v.len
  by_cases hneg : fr < 0
  · have g1 := eq_true hneg
    have he : errN c fr = 2 := by rw [errN, if_neg (by omega), if_pos (.inl hneg)]
    have hr : renC c fr = zeroC := by rw [renC, he, if_neg (by omega)]
    rw [he, hr]
    simp +contextual only [B1.a, B1.b, B2.a, B2.b, l2, g1, ↓wA, wC, Ex.ends, evR, oneOf, top, ↓reduceIte, Nat.reduceEqDiff, Nat.reduceLeDiff, Nat.reduceAdd, Nat.reduceSub, Nat.reduceMul, reduceCtorEq, Int.reduceEq, Int.reduceLT, Int.reduceLE, Int.reduceNeg]
    exact ⟨_, rfl, zero_inF _ _, E2.mod_new (sM _ _) (fun b q => by rw [q, unPa_pa]; omega)⟩
  have g1 := eq_false hneg
  have ws : IntKind.i64.wrap (1048576 - fr) = 1048576 - fr := wrap_i64 (by omega) (by omega)
  by_cases hbig : 1048576 - fr < (order c).length
  · have g2 := eq_true hbig
    have he : errN c fr = 2 := by rw [errN, if_neg (by omega), if_pos (.inr hbig)]
    have hr : renC c fr = zeroC := by rw [renC, he, if_neg (by omega)]
    rw [he, hr]
    simp +contextual only [B1.a, B1.b, B2.a, B2.b, l2, g1, ws, g2, ↓wA, wC, Ex.ends, evR, oneOf, top, ↓reduceIte, Nat.reduceEqDiff, Nat.reduceLeDiff, Nat.reduceAdd, Nat.reduceSub, Nat.reduceMul, reduceCtorEq, Int.reduceEq, Int.reduceLT, Int.reduceLE, Int.reduceNeg]
    exact ⟨_, rfl, zero_inF _ _, E2.mod_new (sM _ _) (fun b q => by rw [q, unPa_pa]; omega)⟩
  have g2 := eq_false hbig
  have he : errN c fr = 0 := by rw [errN, if_neg (by omega), if_neg (by omega)]
  have hr : renC c fr = reC (plF (order c) fr) c := by rw [renC, he, if_pos rfl]
  rw [he, hr]
  simp +contextual only [B1.a, B1.b, B2.a, B2.b, l2, g1, ws, g2, ↓wA, wC, Ex.ends, evR, oneOf, top, ↓reduceIte, Nat.reduceEqDiff, Nat.reduceLeDiff, Nat.reduceAdd, Nat.reduceSub, Nat.reduceMul, reduceCtorEq, Int.reduceEq, Int.reduceLT, Int.reduceLE, Int.reduceNeg]
  refine callK_intro (ren_ctr (size c) c (Nat.le_refl _) hf _ h2 (H.ext E2) (order c) vL fr (by omega) (by omega) (by omega) O2.v) ?_
  rintro x h3 ⟨us, rfl, U, e3⟩
  have B3 := B2.ext e3
  obtain ⟨ua, ut, ul, rfl, Ua, Ut, Ul⟩ := U.co.open
  have o1 := Ua.one.1
  have o2 := Ut.one.1
  have o3 := Ul.one.1
  simp +contextual only [B3.a, B3.b, o1, o2, o3, ↓wA, wC, Ex.ends, evR, oneOf, top, ↓reduceIte, Nat.reduceEqDiff, Nat.reduceLeDiff, Nat.reduceAdd, Nat.reduceSub, Nat.reduceMul, reduceCtorEq, Int.reduceEq, Int.reduceLT, Int.reduceLE, Int.reduceNeg]
  have n2 := B2.nb
  exact ⟨_, rfl, U.mod (sM _ _) (fun b f o => ⟨fun e => by rw [e, unPa_pa] at f; omega, by omega⟩), (E2.trans e3).mod_new (sM _ _) (fun b q => by rw [q, unPa_pa]; omega)⟩
set_option maxHeartbeats 4000000 in
theorem Renumber_ctr (c : Co) (vs : List V) (h : Heap) (H : CoIn h c vs) (hw : wt c ≤ 400) (fr : Int) (hfr : fr ≤ 9223372036854775807) :
    Ctr Tryz.prog 29 [.agg vs, .int .i64 fr] h fun x h' => ∃ us, x = .tuple [.agg us, .int .i64 (errN c fr)] ∧ CoS h' (fun b => h.next ≤ unPa b) (renC c fr) us ∧ Ext h h' := by
  have hol := order_small hw
  have hf := fit_of_wt c hw
  obtain ⟨va, vt, vl, rfl, Ha, Ht, Hl⟩ := H.open
  refine c29_ctr rfl (wpK_of ?_)
  unfold c29
  have e0 : Ext h ((h.new (.ofL [.int .i64 c.k, .int .i64 c.x, .int .i64 c.n, .str c.s, va, vt, vl] 0 false)).new (.ofL [.int .i64 0, .int .i64 0, .int .i64 0, .str [], .nilslice, .nilslice, .nilslice] 0 false)) := ((Ext.refl h).new _).new _
  have B0 : Bx h.next (h.next + 1) [.int .i64 c.k, .int .i64 c.x, .int .i64 c.n, .str c.s, va, vt, vl] [.int .i64 0, .int .i64 0, .int .i64 0, .str [], .nilslice, .nilslice, .nilslice] ((h.new (.ofL [.int .i64 c.k, .int .i64 c.x, .int .i64 c.n, .str c.s, va, vt, vl] 0 false)).new (.ofL [.int .i64 0, .int .i64 0, .int .i64 0, .str [], .nilslice, .nilslice, .nilslice] 0 false)) := ⟨by rw [next_new, next_new]; omega, by rw [next_new, next_new]; omega, by rw [get_new, if_neg (by rw [pa_eq, next_new]; omega), get_new_self], by rw [get_new, if_pos (by rw [next_new])]⟩
  have sM : ∀ (g : Heap) (B : Blk), Mod (fun b => b = pa (h.next + 1)) g (g.set (pa (h.next + 1)) B) := fun g B => (Mod.refl (fun b => b = pa (h.next + 1)) g).set (fun _ => rfl) _
  simp +contextual only [↓wA, wC, Ex.ends, evR, oneOf, top, ↓reduceIte, Nat.reduceEqDiff, Nat.reduceLeDiff, Nat.reduceAdd, Nat.reduceSub, Nat.reduceMul, reduceCtorEq, Int.reduceEq, Int.reduceLT, Int.reduceLE, Int.reduceNeg]
  generalize ((h.new (.ofL [.int .i64 c.k, .int .i64 c.x, .int .i64 c.n, .str c.s, va, vt, vl] 0 false)).new (.ofL [.int .i64 0, .int .i64 0, .int .i64 0, .str [], .nilslice, .nilslice, .nilslice] 0 false)) = H0 at *
  refine callK_intro (Check_ctr c _ H0 (H.ext e0) hw) ?_
  rintro x h1 ⟨rfl, e1⟩
  have E1 := e0.trans e1
  have B1 := B0.ext e1
  by_cases hc : checkM c = 0
  case neg =>
    have g0 : (checkM c = 0) = False := eq_false hc
    have he : errN c fr = checkM c := by rw [errN, if_pos hc]
    have hr : renC c fr = zeroC := by rw [renC, he, if_neg hc]
    rw [he, hr]
    simp +contextual only [g0, B1.a, B1.b, ↓wA, wC, Ex.ends, evR, oneOf, top, ↓reduceIte, Nat.reduceEqDiff, Nat.reduceLeDiff, Nat.reduceAdd, Nat.reduceSub, Nat.reduceMul, reduceCtorEq, Int.reduceEq, Int.reduceLT, Int.reduceLE, Int.reduceNeg]
    exact ⟨_, rfl, zero_in _ _, E1.mod_new (sM _ _) (fun b q => by rw [q, unPa_pa]; omega)⟩
  have g0 : (checkM c = 0) = True := eq_true hc
  obtain ⟨hm, hnd, hfree⟩ := check_facts hc
  simp +contextual only [g0, B1.a, B1.b, ↓wA, wC, Ex.ends, evR, oneOf, top, ↓reduceIte, Nat.reduceEqDiff, Nat.reduceLeDiff, Nat.reduceAdd, Nat.reduceSub, Nat.reduceMul, reduceCtorEq, Int.reduceEq, Int.reduceLT, Int.reduceLE, Int.reduceNeg]
  refine callK_intro (Order_ctr c _ _ (H.ext E1) hf (ok_of hw hm) (by omega)) ?_
  rintro vL h2 ⟨O2, e2⟩
  skip
  have E2 := E1.trans e2
  have B2 := B1.ext e2
  have l2 := O2.v.len
  by_cases hneg : fr < 0
  · have g1 := eq_true hneg
    have he : errN c fr = 2 := by rw [errN, if_neg (by omega), if_pos (.inl hneg)]
    have hr : renC c fr = zeroC := by rw [renC, he, if_neg (by omega)]
    rw [he, hr]
    simp +contextual only [B1.a, B1.b, B2.a, B2.b, l2, g1, ↓wA, wC, Ex.ends, evR, oneOf, top, ↓reduceIte, Nat.reduceEqDiff, Nat.reduceLeDiff, Nat.reduceAdd, Nat.reduceSub, Nat.reduceMul, reduceCtorEq, Int.reduceEq, Int.reduceLT, Int.reduceLE, Int.reduceNeg]
    exact ⟨_, rfl, zero_in _ _, E2.mod_new (sM _ _) (fun b q => by rw [q, unPa_pa]; omega)⟩
  have g1 := eq_false hneg
  have ws : IntKind.i64.wrap (1048576 - fr) = 1048576 - fr := wrap_i64 (by omega) (by omega)
  by_cases hbig : 1048576 - fr < (order c).length
  · have g2 := eq_true hbig
    have he : errN c fr = 2 := by rw [errN, if_neg (by omega), if_pos (.inr hbig)]
    have hr : renC c fr = zeroC := by rw [renC, he, if_neg (by omega)]
    rw [he, hr]
    simp +contextual only [B1.a, B1.b, B2.a, B2.b, l2, g1, ws, g2, ↓wA, wC, Ex.ends, evR, oneOf, top, ↓reduceIte, Nat.reduceEqDiff, Nat.reduceLeDiff, Nat.reduceAdd, Nat.reduceSub, Nat.reduceMul, reduceCtorEq, Int.reduceEq, Int.reduceLT, Int.reduceLE, Int.reduceNeg]
    exact ⟨_, rfl, zero_in _ _, E2.mod_new (sM _ _) (fun b q => by rw [q, unPa_pa]; omega)⟩
  have g2 := eq_false hbig
  have he : errN c fr = 0 := by rw [errN, if_neg (by omega), if_neg (by omega)]
  have hr : renC c fr = reC (plF (order c) fr) c := by rw [renC, he, if_pos rfl]
  rw [he, hr]
  have n2 := B2.nb
  have eM : Ext h2 (((h2.new (.mp [] 0)).new (.ofL [.nilmap] 0 false)).set (pa (h2.next + 1)) (.ofL [.map (pa h2.next)] 0 false)) := (((Ext.refl h2).new _).new _).set (by omega) _
  have BM := B2.ext eM
  have gm : (((h2.new (.mp [] 0)).new (.ofL [.nilmap] 0 false)).set (pa (h2.next + 1)) (.ofL [.map (pa h2.next)] 0 false)).get (pa (h2.next + 1)) = .ofL [.map (pa h2.next)] 0 false := by rw [get_set, if_pos rfl]
  have gc : (((h2.new (.mp [] 0)).new (.ofL [.nilmap] 0 false)).set (pa (h2.next + 1)) (.ofL [.map (pa h2.next)] 0 false)).get (pa h2.next) = .mp [] 0 := by rw [get_set, if_neg (by rw [pa_eq]; omega), get_new, if_neg (by rw [pa_eq, next_new]; omega), get_new_self]
  have nM : (((h2.new (.mp [] 0)).new (.ofL [.nilmap] 0 false)).set (pa (h2.next + 1)) (.ofL [.map (pa h2.next)] 0 false)).next = h2.next + 2 := by rw [next_set, next_new, next_new]
  simp +contextual only [show ∀ g : Heap, makeMapV none g = .val (.map (pa g.next)) (g.new (.mp [] 0)) from fun g => rfl, B1.a, B1.b, B2.a, B2.b, l2, g1, ws, g2, ↓wA, wC, Ex.ends, evR, oneOf, top, ↓reduceIte, Nat.reduceEqDiff, Nat.reduceLeDiff, Nat.reduceAdd, Nat.reduceSub, Nat.reduceMul, reduceCtorEq, Int.reduceEq, Int.reduceLT, Int.reduceLE, Int.reduceNeg]
  generalize (((h2.new (.mp [] 0)).new (.ofL [.nilmap] 0 false)).set (pa (h2.next + 1)) (.ofL [.map (pa h2.next)] 0 false)) = HM at *
  refine loopK_intro (fun r g => r 1 = .int .i64 fr ∧ r 2 = .ptr (pa h.next) 0 ∧ r 4 = .ptr (pa (h.next + 1)) 0 ∧ r 8 = .ptr (pa (h2.next + 1)) 0 ∧ r 30 = vL ∧ r 31 = .int .i64 (order c).length ∧ ∃ (i : Nat) (f : Int → Int), r 32 = .int .i64 i ∧ i ≤ (order c).length ∧ Mod (fun b => b = pa h2.next) HM g ∧ CntIn g (pa h2.next) f ∧ ∀ z ∈ (order c).take i, f z = plF (order c) fr z) (fun r h' => (order c).length - (r 32).toN) ?_ ?_
  · exact ⟨by simp only [↓wA, wC, ↓reduceIte, Nat.reduceEqDiff, reduceCtorEq], by simp only [↓wA, wC, ↓reduceIte, Nat.reduceEqDiff, reduceCtorEq], by simp only [↓wA, wC, ↓reduceIte, Nat.reduceEqDiff, reduceCtorEq], by simp only [↓wA, wC, ↓reduceIte, Nat.reduceEqDiff, reduceCtorEq], by simp only [↓wA, wC, ↓reduceIte, Nat.reduceEqDiff, reduceCtorEq], by simp only [↓wA, wC, ↓reduceIte, Nat.reduceEqDiff, reduceCtorEq], 0, fun _ => 0, by simp only [↓wA, wC, ↓reduceIte, Nat.reduceEqDiff, reduceCtorEq] <;> rfl, by omega, Mod.refl _ _, ⟨[], 0, gc, fun _ => rfl⟩, fun z hz => by simp at hz⟩
  · rintro r g ⟨r1, r2, r4, r8, r30, r31, i, f, r32, hi, mg, hcnt, hfz⟩
    unfold c29l1
    have gpm : g.get (pa (h2.next + 1)) = .ofL [.map (pa h2.next)] 0 false := by rw [mg.get _ (old_lt (by omega)) (by rw [pa_eq]; omega)]; exact gm
    have ng := mg.next
    have Eg : Ext h2 g := eM.mod_new mg (fun b q => by rw [q, unPa_pa]; exact Nat.le_refl _)
    have Bg := B2.ext Eg
    by_cases hlt : i < (order c).length
    · have g0 : ((i : Int) < ((order c).length : Int)) = True := eq_true (by omega)
      obtain ⟨b, o, ia, ld⟩ := ints_at (O2.v.ext Eg) (k := .i64) hlt
      have wi := w_inc hlt (by omega)
      have wf : IntKind.i64.wrap (fr + (i : Int)) = fr + i := wrap_i64 (by omega) (by omega)
      obtain ⟨B, u1, u2⟩ := hcnt.upd (order c)[i] (fr + i)
      have hpl := placeL_get hnd i hlt
      have htk : (order c).take (i + 1) = (order c).take i ++ [(order c)[i]] := by rw [List.take_add_one, List.getElem?_eq_getElem hlt]; rfl
      generalize hz0 : (order c)[i] = z0 at *
      simp +contextual only [r1, r2, r4, r8, r30, r31, r32, g0, ia, ld, gpm, wf, u1, wi, ↓wA, wC, Ex.ends, evR, oneOf, top, ↓reduceIte, Nat.reduceEqDiff, Nat.reduceLeDiff, Nat.reduceAdd, Nat.reduceSub, Nat.reduceMul, reduceCtorEq, Int.reduceEq, Int.reduceLT, Int.reduceLE, Int.reduceNeg]
      refine ⟨⟨i + 1, _, rfl, hlt, mg.set (fun _ => rfl) _, u2, fun z hz => ?_⟩, by omega⟩
      by_cases e : z = z0
      · rw [if_pos e, e, plF, hpl]
      · rw [if_neg e]
        rw [htk, List.mem_append, List.mem_singleton] at hz
        exact hfz z (hz.resolve_right e)
    · have g0 : ((i : Int) < ((order c).length : Int)) = False := eq_false (by omega)
      rw [List.take_of_length_le (by omega)] at hfz
      have hT : ToS g (pa (h2.next + 1)) (pa h2.next) f := ⟨old_lt (by omega), old_lt (by omega), gpm, hcnt⟩
      have hcg : reC f c = reC (plF (order c) fr) c := reC_congr c fun z hz => by
        rcases used_bound c [] (ok_of hw hm) hfree z hz with q | q
        · cases q
        · exact hfz z q
      simp +contextual only [r1, r2, r4, r8, r30, r31, r32, g0, Bg.a, Bg.b, ↓wA, wC, Ex.ends, evR, oneOf, top, ↓reduceIte, Nat.reduceEqDiff, Nat.reduceLeDiff, Nat.reduceAdd, Nat.reduceSub, Nat.reduceMul, reduceCtorEq, Int.reduceEq, Int.reduceLT, Int.reduceLE, Int.reduceNeg]
      refine callK_intro (map_ctr (size c) c (Nat.le_refl _) hf (ok_of hw hm) _ g (H.ext (E2.trans Eg)) _ _ f hT) ?_
      rintro x h3 ⟨us, rfl, U, e3⟩
      rw [hcg] at U
      have B3 := Bg.ext e3
      obtain ⟨ua, ut, ul, rfl, Ua, Ut, Ul⟩ := U.co.open
      have o1 := Ua.one.1
      have o2 := Ut.one.1
      have o3 := Ul.one.1
      simp +contextual only [r1, r2, r4, B3.a, B3.b, o1, o2, o3, ↓wA, wC, Ex.ends, evR, oneOf, top, ↓reduceIte, Nat.reduceEqDiff, Nat.reduceLeDiff, Nat.reduceAdd, Nat.reduceSub, Nat.reduceMul, reduceCtorEq, Int.reduceEq, Int.reduceLT, Int.reduceLE, Int.reduceNeg]
      have nbg := Bg.nb
      exact ⟨_, rfl, (U.mod (sM _ _) (fun b f e => by rw [e, unPa_pa] at f; omega)).weak (fun b f => by omega), ((E2.trans Eg).trans e3).mod_new (sM _ _) (fun b q => by rw [q, unPa_pa]; omega)⟩
end Go.Proofs.YtjbiefneffiogaaGreat

namespace Go.Proofs.YtjbiefneffiogaaGreat
open Go Am
set_option maxHeartbeats 2000000 in
theorem numbers_ctr (c : Co) (hf : fit 1048576 c) (vs : List V) (h : Heap) (H : CoIn h c vs) (fr : Int) (hfr : fr ≤ 9223372036854775807) : Ctr Tryz.prog 6 [.agg vs, .int .i64 fr] h fun x h' => x = .bool true ∧ Ext h h' := by
  obtain ⟨va, vt, vl, rfl, Ha, Ht, Hl⟩ := H.open
  have H' := H
  refine c6_ctr rfl (wpK_of ?_)
  unfold c6
  have e0 : Ext h (h.new (.ofL [.int .i64 c.k, .int .i64 c.x, .int .i64 c.n, .str c.s, va, vt, vl] 0 false)) := (Ext.refl h).new _
  have g0 : (h.new (.ofL [.int .i64 c.k, .int .i64 c.x, .int .i64 c.n, .str c.s, va, vt, vl] 0 false)).get (pa h.next) = .ofL [.int .i64 c.k, .int .i64 c.x, .int .i64 c.n, .str c.s, va, vt, vl] 0 false := get_new_self _
  simp +contextual only [↓wA, wC, Ex.ends, evR, oneOf, top, ↓reduceIte, Nat.reduceEqDiff, Nat.reduceLeDiff, Nat.reduceAdd, Nat.reduceSub, Nat.reduceMul, reduceCtorEq, Int.reduceEq, Int.reduceLT, Int.reduceLE, Int.reduceNeg]
  refine callK_intro (large_ctr c hf _ _ (H.ext e0)) ?_
  rintro x g1 ⟨rfl, e1⟩
  have E1 := e0.trans e1
  have b1 : g1.get (pa h.next) = .ofL [.int .i64 c.k, .int .i64 c.x, .int .i64 c.n, .str c.s, va, vt, vl] 0 false := by rw [e1.get _ (old_lt (by rw [next_new]; omega))]; exact g0
  have n1 : h.next < g1.next := by have := e1.next; rw [next_new] at this; omega
  by_cases hw : 400 < wt c
  · have gw := eq_true hw
    simp +contextual only [gw, ↓wA, wC, Ex.ends, evR, oneOf, top, ↓reduceIte, Nat.reduceEqDiff, Nat.reduceLeDiff, Nat.reduceAdd, Nat.reduceSub, Nat.reduceMul, reduceCtorEq, Int.reduceEq, Int.reduceLT, Int.reduceLE, Int.reduceNeg]
    refine callK_intro (awake_ctr _) ?_
    rintro x g2 ⟨rfl, rfl⟩
    simp +contextual only [↓wA, wC, Ex.ends, evR, oneOf, top, ↓reduceIte, Nat.reduceEqDiff, Nat.reduceLeDiff, Nat.reduceAdd, Nat.reduceSub, Nat.reduceMul, reduceCtorEq, Int.reduceEq, Int.reduceLT, Int.reduceLE, Int.reduceNeg]
    exact E1
  have gw := eq_false hw
  have hw' : wt c ≤ 400 := by omega
  simp +contextual only [gw, b1, ↓wA, wC, Ex.ends, evR, oneOf, top, ↓reduceIte, Nat.reduceEqDiff, Nat.reduceLeDiff, Nat.reduceAdd, Nat.reduceSub, Nat.reduceMul, reduceCtorEq, Int.reduceEq, Int.reduceLT, Int.reduceLE, Int.reduceNeg]
  refine callK_intro (copy_ctr (size c) c (Nat.le_refl _) hf _ g1 (H.ext E1)) ?_
  rintro x g2 ⟨us, rfl, F2, e2⟩
  have J := F2.co
  obtain ⟨ua, ut, ul, rfl, Ja, Jt, Jl⟩ := J.open
  have b2 : g2.get (pa h.next) = .ofL [.int .i64 c.k, .int .i64 c.x, .int .i64 c.n, .str c.s, va, vt, vl] 0 false := by rw [e2.get _ (old_lt n1)]; exact b1
  have n2 : h.next < g2.next := Nat.lt_of_lt_of_le n1 e2.next
  have oa := Ja.one.1
  have ot := Jt.one.1
  have ol := Jl.one.1
  have e3 : Ext g2 ((g2.new (.ofL [.int .i64 0, .int .i64 0, .int .i64 0, .str [], .nilslice, .nilslice, .nilslice] 0 false)).set (pa g2.next) (.ofL [.int .i64 c.k, .int .i64 c.x, .int .i64 c.n, .str c.s, ua, ut, ul] 0 false)) := ((Ext.refl g2).new _).set (Nat.le_refl _) _
  have B3 : Bx h.next g2.next [.int .i64 c.k, .int .i64 c.x, .int .i64 c.n, .str c.s, va, vt, vl] [.int .i64 c.k, .int .i64 c.x, .int .i64 c.n, .str c.s, ua, ut, ul] ((g2.new (.ofL [.int .i64 0, .int .i64 0, .int .i64 0, .str [], .nilslice, .nilslice, .nilslice] 0 false)).set (pa g2.next) (.ofL [.int .i64 c.k, .int .i64 c.x, .int .i64 c.n, .str c.s, ua, ut, ul] 0 false)) :=
    ⟨by rw [next_set, next_new]; omega, by rw [next_set, next_new]; omega, by rw [e3.get _ (old_lt n2)]; exact b2, by rw [get_set, if_pos rfl]⟩
  have nn2 : (g2.next = h.next) = False := eq_false (by omega)
  simp +contextual only [oa, ot, ol, nn2, b2, ↓wA, wC, Ex.ends, evR, oneOf, top, ↓reduceIte, Nat.reduceEqDiff, Nat.reduceLeDiff, Nat.reduceAdd, Nat.reduceSub, Nat.reduceMul, reduceCtorEq, Int.reduceEq, Int.reduceLT, Int.reduceLE, Int.reduceNeg]
  generalize ((g2.new (.ofL [.int .i64 0, .int .i64 0, .int .i64 0, .str [], .nilslice, .nilslice, .nilslice] 0 false)).set (pa g2.next) (.ofL [.int .i64 c.k, .int .i64 c.x, .int .i64 c.n, .str c.s, ua, ut, ul] 0 false)) = g3 at *
  have E3 := (E1.trans e2).trans e3
  have V3 := H.ext E3
  have U3 := J.ext e3
  refine callK_intro (Renumber_ctr c _ g3 U3 hw' fr hfr) ?_
  rintro x g4 ⟨as1, rfl, U4, e4⟩
  have B4 := B3.ext e4
  have E4 := E3.trans e4
  have U4' := U4.old
  obtain ⟨aa, at_, al, rfl, _⟩ := U4.open
  obtain ⟨_, _, _, he4, Aa, At, Al⟩ := U4.co.open
  simp only [List.cons.injEq, and_true, true_and] at he4
  obtain ⟨rfl, rfl, rfl⟩ := he4
  have a1 := Aa.one.1
  have a2 := At.one.1
  have a3 := Al.one.1
  have e5 : Ext g4 ((g4.new (.ofL [.int .i64 0, .int .i64 0, .int .i64 0, .str [], .nilslice, .nilslice, .nilslice] 0 false)).set (pa g4.next) (.ofL [.int .i64 (renC c fr).k, .int .i64 (renC c fr).x, .int .i64 (renC c fr).n, .str (renC c fr).s, aa, at_, al] 0 false)) := ((Ext.refl g4).new _).set (Nat.le_refl _) _
  have B5 := B4.ext e5
  have n4a : (g4.next = h.next) = False := eq_false (by have := B4.na; omega)
  have n4b : (g4.next = g2.next) = False := eq_false (by have := B4.nb; omega)
  have y5 : ((g4.new (.ofL [.int .i64 0, .int .i64 0, .int .i64 0, .str [], .nilslice, .nilslice, .nilslice] 0 false)).set (pa g4.next) (.ofL [.int .i64 (renC c fr).k, .int .i64 (renC c fr).x, .int .i64 (renC c fr).n, .str (renC c fr).s, aa, at_, al] 0 false)).get (pa g4.next) = .ofL [.int .i64 (renC c fr).k, .int .i64 (renC c fr).x, .int .i64 (renC c fr).n, .str (renC c fr).s, aa, at_, al] 0 false := by rw [get_set, if_pos rfl]
  have n5 : ((g4.new (.ofL [.int .i64 0, .int .i64 0, .int .i64 0, .str [], .nilslice, .nilslice, .nilslice] 0 false)).set (pa g4.next) (.ofL [.int .i64 (renC c fr).k, .int .i64 (renC c fr).x, .int .i64 (renC c fr).n, .str (renC c fr).s, aa, at_, al] 0 false)).next = g4.next + 1 := by rw [next_set, next_new]
  simp +contextual only [B4.a, B4.b, n4a, n4b, a1, a2, a3, ↓wA, wC, Ex.ends, evR, oneOf, top, ↓reduceIte, Nat.reduceEqDiff, Nat.reduceLeDiff, Nat.reduceAdd, Nat.reduceSub, Nat.reduceMul, reduceCtorEq, Int.reduceEq, Int.reduceLT, Int.reduceLE, Int.reduceNeg]
  generalize ((g4.new (.ofL [.int .i64 0, .int .i64 0, .int .i64 0, .str [], .nilslice, .nilslice, .nilslice] 0 false)).set (pa g4.next) (.ofL [.int .i64 (renC c fr).k, .int .i64 (renC c fr).x, .int .i64 (renC c fr).n, .str (renC c fr).s, aa, at_, al] 0 false)) = g5 at *
  have E5 := E4.trans e5
  refine callK_intro (rRenumber_ctr c _ g5 (H.ext E5) hw' fr hfr) ?_
  rintro x g6 ⟨bs1, rfl, U6, e6⟩
  have B6 := B5.ext e6
  have E6 := E5.trans e6
  have hn6 := e6.next
  obtain ⟨ba, bt, bl, rfl, Ba, Bt, Bl⟩ := U6.co.open
  have b1' := Ba.one.1
  have b2' := Bt.one.1
  have b3' := Bl.one.1
  have y6 : g6.get (pa g4.next) = .ofL [.int .i64 (renC c fr).k, .int .i64 (renC c fr).x, .int .i64 (renC c fr).n, .str (renC c fr).s, aa, at_, al] 0 false := by rw [e6.get _ (old_lt (by omega))]; exact y5
  have e7 : Ext g6 ((g6.new (.ofL [.int .i64 0, .int .i64 0, .int .i64 0, .str [], .nilslice, .nilslice, .nilslice] 0 false)).set (pa g6.next) (.ofL [.int .i64 (renC c fr).k, .int .i64 (renC c fr).x, .int .i64 (renC c fr).n, .str (renC c fr).s, ba, bt, bl] 0 false)) := ((Ext.refl g6).new _).set (Nat.le_refl _) _
  have B7 := B6.ext e7
  have n6a : (g6.next = h.next) = False := eq_false (by have := B6.na; omega)
  have n6b : (g6.next = g2.next) = False := eq_false (by have := B6.nb; omega)
  have n6c : (g6.next = g4.next) = False := eq_false (by omega)
  have y7 : ((g6.new (.ofL [.int .i64 0, .int .i64 0, .int .i64 0, .str [], .nilslice, .nilslice, .nilslice] 0 false)).set (pa g6.next) (.ofL [.int .i64 (renC c fr).k, .int .i64 (renC c fr).x, .int .i64 (renC c fr).n, .str (renC c fr).s, ba, bt, bl] 0 false)).get (pa g4.next) = .ofL [.int .i64 (renC c fr).k, .int .i64 (renC c fr).x, .int .i64 (renC c fr).n, .str (renC c fr).s, aa, at_, al] 0 false := by rw [e7.get _ (old_lt (by omega))]; exact y6
  have w7 : ((g6.new (.ofL [.int .i64 0, .int .i64 0, .int .i64 0, .str [], .nilslice, .nilslice, .nilslice] 0 false)).set (pa g6.next) (.ofL [.int .i64 (renC c fr).k, .int .i64 (renC c fr).x, .int .i64 (renC c fr).n, .str (renC c fr).s, ba, bt, bl] 0 false)).get (pa g6.next) = .ofL [.int .i64 (renC c fr).k, .int .i64 (renC c fr).x, .int .i64 (renC c fr).n, .str (renC c fr).s, ba, bt, bl] 0 false := by rw [get_set, if_pos rfl]
  have n7 : ((g6.new (.ofL [.int .i64 0, .int .i64 0, .int .i64 0, .str [], .nilslice, .nilslice, .nilslice] 0 false)).set (pa g6.next) (.ofL [.int .i64 (renC c fr).k, .int .i64 (renC c fr).x, .int .i64 (renC c fr).n, .str (renC c fr).s, ba, bt, bl] 0 false)).next = g6.next + 1 := by rw [next_set, next_new]
  simp +contextual only [B6.a, B6.b, n6a, n6b, n6c, y6, b1', b2', b3', ↓wA, wC, Ex.ends, evR, oneOf, top, ↓reduceIte, Nat.reduceEqDiff, Nat.reduceLeDiff, Nat.reduceAdd, Nat.reduceSub, Nat.reduceMul, reduceCtorEq, Int.reduceEq, Int.reduceLT, Int.reduceLE, Int.reduceNeg]
  generalize ((g6.new (.ofL [.int .i64 0, .int .i64 0, .int .i64 0, .str [], .nilslice, .nilslice, .nilslice] 0 false)).set (pa g6.next) (.ofL [.int .i64 (renC c fr).k, .int .i64 (renC c fr).x, .int .i64 (renC c fr).n, .str (renC c fr).s, ba, bt, bl] 0 false)) = g7 at *
  have E7 := E6.trans e7
  have X47 := (e5.trans e6).trans e7
  refine callK_intro (same_ctr (size (renC c fr)) (renC c fr) (Nat.le_refl _) (fit_renC hf) _ _ g7 (U4.co.ext X47) (U6.co.ext e7)) ?_
  rintro x g8 ⟨rfl, e8⟩
  have B8 := B7.ext e8
  have y8 : g8.get (pa g4.next) = .ofL [.int .i64 (renC c fr).k, .int .i64 (renC c fr).x, .int .i64 (renC c fr).n, .str (renC c fr).s, aa, at_, al] 0 false := by rw [e8.get _ (old_lt (by omega))]; exact y7
  simp +contextual only [B7.a, B7.b, y7, w7, y8, ↓wA, wC, Ex.ends, evR, oneOf, top, ↓reduceIte, Nat.reduceEqDiff, Nat.reduceLeDiff, Nat.reduceAdd, Nat.reduceSub, Nat.reduceMul, reduceCtorEq, Int.reduceEq, Int.reduceLT, Int.reduceLE, Int.reduceNeg]
  have X48 := X47.trans e8
  refine callK_intro (over_ctr (size (renC c fr)) (renC c fr) (Nat.le_refl _) (fit_renC hf) _ _ g8 (U4'.mod (X48.mod fun _ => False) (fun b _ q => q)) (fun b q => X48.old q.2)) ?_
  rintro y g9 m9
  have X38 := e4.trans X48
  have X39 : Ext g3 g9 := X38.mod_new m9 (fun b q => q.1)
  have B9 := B3.ext X39
  simp +contextual only [B9.a, B9.b, ↓wA, wC, Ex.ends, evR, oneOf, top, ↓reduceIte, Nat.reduceEqDiff, Nat.reduceLeDiff, Nat.reduceAdd, Nat.reduceSub, Nat.reduceMul, reduceCtorEq, Int.reduceEq, Int.reduceLT, Int.reduceLE, Int.reduceNeg]
  refine callK_intro (same_ctr (size c) c (Nat.le_refl _) hf _ _ _ (U3.ext X39) (V3.ext X39)) ?_
  rintro z g10 ⟨rfl, e10⟩
  simp +contextual only [↓wA, wC, Ex.ends, evR, oneOf, top, ↓reduceIte, Nat.reduceEqDiff, Nat.reduceLeDiff, Nat.reduceAdd, Nat.reduceSub, Nat.reduceMul, reduceCtorEq, Int.reduceEq, Int.reduceLT, Int.reduceLE, Int.reduceNeg]
  refine callK_intro (awake_ctr _) ?_
  rintro z g11 ⟨rfl, rfl⟩
  simp +contextual only [↓wA, wC, Ex.ends, evR, oneOf, top, ↓reduceIte, Nat.reduceEqDiff, Nat.reduceLeDiff, Nat.reduceAdd, Nat.reduceSub, Nat.reduceMul, reduceCtorEq, Int.reduceEq, Int.reduceLT, Int.reduceLE, Int.reduceNeg]
  exact (E3.trans X39).trans e10
end Go.Proofs.YtjbiefneffiogaaGreat
