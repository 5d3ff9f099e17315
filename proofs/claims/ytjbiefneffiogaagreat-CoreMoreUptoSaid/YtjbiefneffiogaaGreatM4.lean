/- The abstract machine and its walks (a verified interpreter of the model's code: plain definitions and lemmas, no condition). -/
import Derived.Test.YtjbiefneffiogaaGreatM3
set_option linter.unusedSectionVars false
set_option linter.unusedSimpArgs false
set_option linter.unusedVariables false

namespace Go.Proofs.YtjbiefneffiogaaGreat.Am
variable [Lay]
open Go Go.RowKit
structure Mod (M : Pa → Prop) (h h' : Heap) : Prop where
  next : h.next ≤ h'.next
  get : ∀ b, Old h b → ¬ M b → h'.get b = h.get b
theorem Mod.refl (M : Pa → Prop) (h : Heap) : Mod M h h := ⟨Nat.le_refl _, fun _ _ _ => rfl⟩
theorem Mod.old {M : Pa → Prop} {h h' : Heap} (e : Mod M h h') {b : Pa} (hb : Old h b) : Old h' b := Nat.lt_of_lt_of_le hb e.next
theorem Mod.trans {M : Pa → Prop} {h h' h'' : Heap} (e : Mod M h h') (e' : Mod M h' h'') : Mod M h h'' :=
  ⟨Nat.le_trans e.next e'.next, fun b hb hm => (e'.get b (e.old hb) hm).trans (e.get b hb hm)⟩
theorem Mod.mono {M M' : Pa → Prop} {h h' : Heap} (e : Mod M h h') (hm : ∀ b, Old h b → M b → M' b) : Mod M' h h' :=
  ⟨e.next, fun b hb hn => e.get b hb fun q => hn (hm b hb q)⟩
theorem Mod.new {M : Pa → Prop} {h h' : Heap} (e : Mod M h h') (k : Blk) : Mod M h (h'.new k) :=
  ⟨Nat.le_succ_of_le e.next, fun b hb hm => by
    rw [get_new, if_neg (fun q => (old_ne (h := h) hb e.next) ▸ q)]
    exact e.get b hb hm⟩
theorem Mod.set {M : Pa → Prop} {h h' : Heap} (e : Mod M h h') {b : Pa} (hb : Old h b → M b) (k : Blk) : Mod M h (h'.set b k) :=
  ⟨e.next, fun b' hb' hm => by
    rw [get_set]
    by_cases q : b = b'
    · subst q
      exact absurd (hb hb') hm
    · rw [if_neg q]
      exact e.get b' hb' hm⟩
theorem Ext.mod {h h' : Heap} (e : Ext h h') (M : Pa → Prop) : Mod M h h' := ⟨e.next, fun b hb _ => e.get b hb⟩
theorem Ext.mod_new {h h' h'' : Heap} (e : Ext h h') {M : Pa → Prop} (m : Mod M h' h'') (hm : ∀ b, M b → h.next ≤ unPa b) : Ext h h'' :=
  ⟨Nat.le_trans e.next m.next, fun b hb => by
    have hnm : ¬ M b := fun q => by have := hm b q; unfold Old at hb; omega
    exact (m.get b (e.old hb) hnm).trans (e.get b hb)⟩
theorem Mod.at {M : Pa → Prop} {h h' : Heap} (e : Mod M h h') {b : Pa} {off : Nat} {vs : List V} (H : AtL h b off vs) (hm : ¬ M b) : AtL h' b off vs := by
  obtain ⟨h0, us, h1, h2, h3⟩ := H
  refine ⟨e.old h0, us, ?_, h2, h3⟩
  unfold Rd at h1 ⊢
  rw [e.get b h0 hm]
  exact h1
theorem old_lt {h : Heap} {i : Nat} (hi : i < h.next) : Old h (pa i) := by unfold Old; rw [unPa_pa]; exact hi
theorem new_ne {h : Heap} {b : Pa} {i : Nat} (hb : Old h b) (hi : h.next ≤ i) : (b = pa i) = False := by
  apply eq_false
  intro e
  unfold Old at hb
  rw [e, unPa_pa] at hb
  omega
def V.blk : V → Pa → Prop
  | .slice b _ _ _, b' => b' = b
  | .gslice b _ _ _, b' => b' = b
  | _, _ => False
theorem SlV.ia' {h : Heap} {size : Nat} {v : V} {n : Nat} {vs : List V} (H : SlV h size v n vs) {k : IntKind} {i : Nat} (hi : i < n) :
    ∃ b off, iaV size v (.int k i) = some (.ptr b (off + i * size)) ∧ AtL h b off vs ∧ v.blk b := by
  have H2 := H.2
  cases v <;> simp only at H2 <;> first
    | omega
    | (exact H2.elim)
    | skip
  · rename_i b off len cap
    obtain ⟨rfl, h1⟩ := H2
    refine ⟨b, off, ?_, h1, rfl⟩
    rw [ia_sl, if_pos (by omega)]
    simp
  · rename_i b off len cap
    obtain ⟨rfl, h1⟩ := H2
    refine ⟨b, off, ?_, h1, rfl⟩
    rw [ia_g, if_pos (by omega)]
    simp
theorem SlV.one {h : Heap} {size : Nat} {v : V} {n : Nat} {vs : List V} (H : SlV h size v n vs) : v.one = true ∧ v.cells = [v] ∧ v.good = true := by
  have q := H.2
  cases v <;> simp only at q <;> first | exact ⟨rfl, rfl, rfl⟩ | exact q.elim
theorem SlV.mod {M : Pa → Prop} {h h' : Heap} (e : Mod M h h') {size : Nat} {v : V} {n : Nat} {vs : List V} (H : SlV h size v n vs) (hm : ∀ b, v.blk b → ¬ M b) : SlV h' size v n vs := by
  refine ⟨H.1, ?_⟩
  have H2 := H.2
  cases v <;> simp only at H2 ⊢ <;> first | exact H2 | exact ⟨H2.1, e.at H2.2 (hm _ rfl)⟩
theorem SlV.old {h : Heap} {size : Nat} {v : V} {n : Nat} {vs : List V} (H : SlV h size v n vs) {b : Pa} (hb : v.blk b) : Old h b := by
  have H2 := H.2
  cases v <;> simp only [V.blk] at H2 hb <;> first | (exact hb.elim) | (subst hb; exact H2.2.1)
def SlO (B : Nat) (h : Heap) (size : Nat) (v : V) (n : Nat) (vs : List V) : Prop :=
  vs.length = n * size ∧ match v with
    | .nilslice => n = 0
    | .slice b off len cap => len = n ∧ B ≤ unPa b ∧ Old h b ∧ n ≤ cap ∧ cap ≤ top ∧ ∃ us esz st, h.get b = .ofL us esz st ∧ off + cap * size ≤ us.length ∧ (us.drop off).take vs.length = vs
    | .gslice b off len idx => len = n ∧ B ≤ unPa b ∧ Old h b ∧ off = 0 ∧ idx = 0 ∧ ∃ us st, h.get b = .ofL us size st ∧ vs.length ≤ us.length ∧ us.take vs.length = vs
    | _ => False
theorem SlO.v {B : Nat} {h : Heap} {size : Nat} {v : V} {n : Nat} {vs : List V} (H : SlO B h size v n vs) : SlV h size v n vs := by
  obtain ⟨h1, h2⟩ := H
  refine ⟨h1, ?_⟩
  cases v <;> simp only at h2 ⊢ <;> first | exact h2 | skip
  · obtain ⟨q1, _, q2, q3, _, us, esz, st, q4, q5, q6⟩ := h2
    refine ⟨q1, q2, us, .inr ⟨esz, st, q4⟩, ?_, q6⟩
    rw [h1]
    have := Nat.mul_le_mul_right size q3
    omega
  · obtain ⟨q1, _, q2, q3, _, us, st, q4, q5, q6⟩ := h2
    subst q3
    exact ⟨q1, q2, us, .inr ⟨size, st, q4⟩, by omega, by simpa using q6⟩
theorem SlO.base {B : Nat} {h : Heap} {size : Nat} {v : V} {n : Nat} {vs : List V} (H : SlO B h size v n vs) {b : Pa} (hb : v.blk b) : B ≤ unPa b := by
  have H2 := H.2
  cases v <;> simp only [V.blk] at H2 hb <;> first | (exact hb.elim) | (subst hb; exact H2.2.1)
theorem SlO.mono {B B' : Nat} {h : Heap} {size : Nat} {v : V} {n : Nat} {vs : List V} (H : SlO B h size v n vs) (hB : B' ≤ B) : SlO B' h size v n vs := by
  refine ⟨H.1, ?_⟩
  have H2 := H.2
  cases v <;> simp only at H2 ⊢ <;> first | exact H2 | exact ⟨H2.1, Nat.le_trans hB H2.2.1, H2.2.2⟩
theorem SlO.mod {M : Pa → Prop} {h h' : Heap} (e : Mod M h h') {B size : Nat} {v : V} {n : Nat} {vs : List V} (H : SlO B h size v n vs) (hm : ∀ b, v.blk b → ¬ M b) : SlO B h' size v n vs := by
  refine ⟨H.1, ?_⟩
  have H2 := H.2
  cases v <;> simp only at H2 ⊢ <;> first | exact H2 | skip
  · obtain ⟨q1, q2, q3, q4, q5, us, esz, st, q6, q7⟩ := H2
    exact ⟨q1, q2, e.old q3, q4, q5, us, esz, st, by rw [e.get _ q3 (hm _ rfl)]; exact q6, q7⟩
  · obtain ⟨q1, q2, q3, q4, q5, us, st, q6, q7⟩ := H2
    exact ⟨q1, q2, e.old q3, q4, q5, us, st, by rw [e.get _ q3 (hm _ rfl)]; exact q6, q7⟩
theorem SlO.ext {h h' : Heap} (e : Ext h h') {B size : Nat} {v : V} {n : Nat} {vs : List V} (H : SlO B h size v n vs) : SlO B h' size v n vs :=
  H.mod (e.mod fun _ => False) fun _ _ q => q
theorem lenV_of {h : Heap} {size : Nat} {v : V} {n : Nat} {vs : List V} (H : SlV h size v n vs) : lenV v = some n := by
  have H2 := H.2
  cases v <;> simp only at H2 <;> first
    | (rw [← H2.1]; rfl)
    | (subst H2; rfl)
    | (exact H2.elim)
theorem srcAt_of {h : Heap} {b : Pa} {off size n : Nat} {vs : List V} (H : AtL h b off vs) (hl : vs.length = n * size) : srcAt h size b off n = some vs := by
  obtain ⟨_, us, h1, h2, h3⟩ := H
  unfold srcAt
  rw [h1.see, show Nat.ble (off + n * size) us.length = true from by rw [Nat.ble_eq]; omega, gets_eq us _ off (by omega), ← hl, h3]
  rfl
theorem src_of {h : Heap} {size : Nat} {v : V} {n : Nat} {vs : List V} (H : SlV h size v n vs) : srcCells h size v n = some vs := by
  obtain ⟨h1, h2⟩ := H
  cases v <;> simp only at h2 <;> first
    | (exact h2.elim)
    | (obtain ⟨_, h3⟩ := h2; exact srcAt_of h3 h1)
    | (subst h2
       have : vs = [] := List.eq_nil_of_length_eq_zero (by omega)
       subst this
       rfl)
theorem SlO.grown {B : Nat} {h : Heap} {size : Nat} {vs : List V} {n : Nat} {st : Bool} (hl : vs.length = n * size) (hB : B ≤ h.next) : SlO B (h.new (.ofL vs size st)) size (.gslice (pa h.next) 0 n 0) n vs :=
  ⟨hl, rfl, by rw [unPa_pa]; exact hB, old_self, rfl, rfl, vs, st, get_new_self _, Nat.le_refl _, List.take_length⟩
theorem appV_eq {h : Heap} {size : Nat} {s x : V} {m : Nat} {vs : List V} (H2 : SlV h size x m vs) (hm : m ≤ top) : appV size s x h = (match s with
      | .nilslice => appNil size m vs h
      | .slice b off len cap => appKnown size b off len cap m vs h
      | .gslice b off len idx => appGrown size b off len idx m vs h
      | _ => .fail) := by
  unfold appV
  rw [lenV_of H2]
  simp only
  rw [src_of H2]
  simp only
  rw [show Nat.ble m top = true from by rw [Nat.ble_eq]; exact hm]
  rfl
theorem splice_get (A : List V) (o : Nat) (W : List V) (h : o + W.length ≤ A.length) (q : Nat) : (splice A o W)[q]? = if q < o then A[q]? else if q < o + W.length then W[q - o]? else A[q]? := by
  have hl : (A.take o).length = o := by rw [List.length_take]; omega
  unfold splice
  rw [List.append_assoc]
  by_cases c1 : q < o
  · rw [if_pos c1, List.getElem?_append_left (by omega), List.getElem?_take_of_lt c1]
  · rw [if_neg c1, List.getElem?_append_right (by omega), hl]
    by_cases c2 : q < o + W.length
    · rw [if_pos c2, List.getElem?_append_left (by omega)]
    · rw [if_neg c2, List.getElem?_append_right (by omega), List.getElem?_drop]
      congr 1
      omega
theorem splice_inner (A : List V) (o j : Nat) (L W : List V) (hA : o + L.length ≤ A.length) (hL : (A.drop o).take L.length = L) (hj : j + W.length ≤ L.length) : ((splice A (o + j) W).drop o).take L.length = splice L j W := by
  apply List.ext_getElem?
  intro q
  have hl : ((A.drop o).take L.length)[q]? = L[q]? := by rw [hL]
  rw [splice_get L j W hj]
  by_cases hq : q < L.length
  · rw [List.getElem?_take_of_lt hq, List.getElem?_drop, splice_get A (o + j) W (by omega)]
    rw [List.getElem?_take_of_lt hq, List.getElem?_drop] at hl
    by_cases c1 : q < j
    · rw [if_pos (by omega), if_pos c1, hl]
    · rw [if_neg (by omega), if_neg c1]
      by_cases c2 : q < j + W.length
      · rw [if_pos (by omega), if_pos c2]
        congr 1
        omega
      · rw [if_neg (by omega), if_neg c2, hl]
  · rw [List.getElem?_take_eq_none (by omega), if_neg (by omega), if_neg (by omega), List.getElem?_eq_none (by omega)]
theorem app_own {B : Nat} {h : Heap} {size : Nat} {s x : V} {n m : Nat} {us vs : List V} (hsz : 1 ≤ size) (H1 : SlO B h size s n us) (H2 : SlV h size x m vs) (hB : B ≤ h.next) (hlen : (n + m) * size ≤ top) (ho : ones vs = true) :
    ∃ v h', appV size s x h = .val v h' ∧ SlO B h' size v (n + m) (us ++ vs) ∧ Mod s.blk h h' ∧ ∀ b, v.blk b → s.blk b ∨ h.next ≤ unPa b := by
  have hnm : n + m ≤ top := Nat.le_trans (Nat.le_mul_of_pos_right _ hsz) hlen
  have hl1 := H1.1
  have hl2 := H2.1
  have hll : (us ++ vs).length = (n + m) * size := by rw [List.length_append, hl1, hl2, Nat.add_mul]
  rw [appV_eq H2 (by omega)]
  have h2 := H1.2
  cases s <;> simp only at h2 ⊢ <;> try (exact h2.elim)
  case nilslice =>
    subst h2
    have : us = [] := List.eq_nil_of_length_eq_zero (by omega)
    subst this
    unfold appNil
    by_cases hm : m = 0
    · subst hm
      have : vs = [] := List.eq_nil_of_length_eq_zero (by omega)
      subst this
      exact ⟨.nilslice, h, rfl, ⟨by simp, rfl⟩, Mod.refl _ _, fun b hb => .inl hb⟩
    · rw [show Nat.beq m 0 = false from by rw [← Bool.not_eq_true, Nat.beq_eq]; exact hm]
      simp only [cond_false]
      rw [newGrow_eq (by rw [hl2]; simpa using hlen) hsz]
      refine ⟨_, _, rfl, ?_, (Mod.refl _ _).new _, fun b hb => .inr (by rw [show b = pa h.next from hb, unPa_pa]; exact Nat.le_refl _)⟩
      have := SlO.grown (B := B) (h := h) (size := size) (vs := vs) (n := m) (st := false) hl2 hB
      simpa using this
  case slice b off len cap =>
    obtain ⟨rfl, q2, q3, q4, q5, us0, esz, st, q6, q7, q8⟩ := h2
    unfold appKnown
    by_cases hc : len + m ≤ cap
    · rw [show Nat.ble (len + m) cap = true from by rw [Nat.ble_eq]; exact hc]
      simp only [cond_true]
      have hroom : off + len * size + vs.length ≤ us0.length := by
        have := Nat.mul_le_mul_right size hc
        rw [Nat.add_mul] at this
        rw [hl2]
        omega
      rw [Own.lay (vs := us0) (esz := esz) (st := st) q6 hroom ho]
      refine ⟨_, _, rfl, ⟨hll, rfl, q2, q3, hc, q5, _, esz, st, get_set _ _ _ |>.trans (if_pos rfl), ?_, ?_⟩, (Mod.refl (V.blk (.slice b off len cap)) h).set (fun _ => rfl) _, fun b' hb => .inl hb⟩
      · rw [splice_length _ _ _ hroom]; exact q7
      · rw [List.length_append]
        unfold splice
        have hlo : off + us.length ≤ us0.length := by rw [hl1]; omega
        have e1 : us0.take (off + len * size) = us0.take off ++ us := by
          rw [← hl1, List.take_add, q8]
        rw [e1, List.append_assoc, List.append_assoc, List.drop_append, List.drop_eq_nil_of_le (by rw [List.length_take]; omega), List.nil_append]
        rw [show off - (us0.take off).length = 0 from by rw [List.length_take]; omega, List.drop_zero]
        rw [← List.append_assoc, List.take_left' (by rw [List.length_append])]
    · rw [show Nat.ble (len + m) cap = false from by rw [← Bool.not_eq_true, Nat.ble_eq]; exact hc]
      simp only [cond_false]
      rw [show (Nat.ble (len + m) top && Nat.ble cap top) = true from by simp only [Bool.and_eq_true, Nat.ble_eq]; exact ⟨hnm, q5⟩]
      simp only [cond_true]
      have hat : AtL h b off us := ⟨q3, us0, .inr ⟨esz, st, q6⟩, by rw [hl1]; have := Nat.mul_le_mul_right size q4; omega, q8⟩
      rw [srcAt_of hat hl1]
      simp only
      rw [newGrow_eq (by rw [hll]; exact hlen) hsz]
      exact ⟨_, _, rfl, SlO.grown hll hB, (Mod.refl _ _).new _, fun b hb => .inr (by rw [show b = pa h.next from hb, unPa_pa]; exact Nat.le_refl _)⟩
  case gslice b off len idx =>
    obtain ⟨rfl, q2, q3, rfl, rfl, us0, st, q6, q7, q8⟩ := h2
    unfold appGrown
    by_cases hm : m = 0
    · subst hm
      have : vs = [] := List.eq_nil_of_length_eq_zero (by omega)
      subst this
      exact ⟨_, h, rfl, ⟨hll, rfl, q2, q3, rfl, rfl, us0, st, q6, by simpa using q7, by simpa using q8⟩, Mod.refl _ _, fun b hb => .inl hb⟩
    · rw [show Nat.beq m 0 = false from by rw [← Bool.not_eq_true, Nat.beq_eq]; exact hm]
      simp only [cond_false]
      rw [q6]
      simp only [Blk.ofL, Blk.on]
      rw [show (Nat.beq size size && (Nat.ble (len + m) top && ones vs) && Nat.beq 0 (0 * size)) = true from by
        simp only [Bool.and_eq_true, Nat.beq_eq, Nat.ble_eq]
        exact ⟨⟨trivial, hnm, ho⟩, by omega⟩]
      simp only [cond_true]
      have hat : AtL h b 0 us := ⟨q3, us0, .inr ⟨size, st, q6⟩, by omega, by simpa using q8⟩
      rw [srcAt_of hat hl1]
      simp only
      rw [newGrow_eq (by rw [hll]; exact hlen) hsz]
      exact ⟨_, _, rfl, SlO.grown (h := h.set b .dead) hll hB, ((Mod.refl (V.blk (.gslice b 0 len 0)) h).set (fun _ => rfl) _).new _, fun b' hb => .inr (by rw [show b' = pa h.next from hb, unPa_pa]; exact Nat.le_refl _)⟩
theorem ones_append {vs ws : List V} (h1 : ones vs = true) (h2 : ones ws = true) : ones (vs ++ ws) = true := by
  induction vs with
  | nil => exact h2
  | cons v vs ih =>
    simp only [ones, Bool.and_eq_true, List.cons_append] at h1 ⊢
    exact ⟨h1.1, ih h1.2⟩
def V.at (v : V) (b : Pa) (off : Nat) : Prop :=
  match v with
  | .slice b' o _ _ => b = b' ∧ off = o
  | .gslice b' o _ _ => b = b' ∧ off = o
  | _ => False
theorem at_ia {h : Heap} {size : Nat} {v : V} {n : Nat} {vs : List V} (H : SlV h size v n vs) {k : IntKind} {i : Nat} (hi : i < n) {b : Pa} {off : Nat} (e : iaV size v (.int k i) = some (.ptr b (off + i * size))) : v.at b off := by
  have H2 := H.2
  cases v <;> simp only at H2 <;> first | omega | (exact H2.elim) | skip
  · obtain ⟨rfl, _⟩ := H2
    rw [ia_sl, if_pos (by omega)] at e
    simp only [Option.some.injEq, V.ptr.injEq, Int.toNat_natCast] at e
    exact ⟨e.1.symm, by omega⟩
  · obtain ⟨rfl, _⟩ := H2
    rw [ia_g, if_pos (by omega)] at e
    simp only [Option.some.injEq, V.ptr.injEq, Int.toNat_natCast] at e
    exact ⟨e.1.symm, by omega⟩
theorem splice_one (vs : List V) (c : Nat) (y : V) (h : c < vs.length) : splice vs c [y] = vs.set c y := by
  unfold splice
  rw [List.set_eq_take_append_cons_drop, if_pos h]
  simp
theorem SlO.putc {B : Nat} {h : Heap} {size : Nat} {v : V} {n : Nat} {vs : List V} (H : SlO B h size v n vs) {b : Pa} {off : Nat} (ha : v.at b off) {c : Nat} (hc : c < vs.length) {y : V} (hy : y.cells = [y]) (ho : y.one = true) :
    ∃ k, layB 1 h b (off + c) y (h.get b) = some (h.set b k) ∧ (∀ H' : Heap, H'.get b = h.get b → layB 1 H' b (off + c) y (h.get b) = some (H'.set b k)) ∧ SlO B (h.set b k) size v n (vs.set c y) ∧ v.blk b := by
  obtain ⟨h1, h2⟩ := H
  have ho' : ones y.cells = true := by rw [hy]; simp [ones, ho]
  cases v <;> simp only at h2 <;> simp only [V.at] at ha <;> try (exact ha.elim)
  case slice b' o len cap =>
    obtain ⟨rfl, rfl⟩ := ha
    obtain ⟨rfl, q2, q3, q4, q5, us0, esz, st, q6, q7, q8⟩ := h2
    have hcc := Nat.mul_le_mul_right size q4
    have hroom : off + c + y.cells.length ≤ us0.length := by rw [hy]; simp; omega
    have e : ∀ H' : Heap, H'.get b = h.get b → layB 1 H' b (off + c) y (h.get b) = some (H'.set b (.ofL (spl us0 (off + c) y.cells) esz st)) := by
      intro H' _
      rw [q6]
      exact lay_ofL (by rw [hy]; rfl) ho' (by rw [hy] at hroom; simpa using hroom)
    refine ⟨_, e h rfl, e, ⟨by simpa using h1, rfl, q2, q3, q4, q5, _, esz, st, get_set _ _ _ |>.trans (if_pos rfl), ?_, ?_⟩, rfl⟩
    · rw [spl_length _ _ _ hroom]; exact q7
    · rw [spl_eq _ _ _ hroom, List.length_set]
      have := splice_inner us0 off c vs y.cells (by rw [h1]; omega) q8 (by rw [hy]; simp; omega)
      rw [this, hy, splice_one vs c y hc]
  case gslice b' o len idx =>
    obtain ⟨rfl, rfl⟩ := ha
    obtain ⟨rfl, q2, q3, rfl, rfl, us0, st, q6, q7, q8⟩ := h2
    have hroom : 0 + c + y.cells.length ≤ us0.length := by rw [hy]; simp; omega
    have e : ∀ H' : Heap, H'.get b = h.get b → layB 1 H' b (0 + c) y (h.get b) = some (H'.set b (.ofL (spl us0 (0 + c) y.cells) size st)) := by
      intro H' _
      rw [q6]
      exact lay_ofL (by rw [hy]; rfl) ho' (by rw [hy] at hroom; simpa using hroom)
    refine ⟨_, e h rfl, e, ⟨by simpa using h1, rfl, q2, q3, rfl, rfl, _, st, get_set _ _ _ |>.trans (if_pos rfl), ?_, ?_⟩, rfl⟩
    · rw [spl_length _ _ _ hroom, List.length_set]; exact q7
    · rw [spl_eq _ _ _ hroom, List.length_set]
      have := splice_inner us0 0 c vs y.cells (by omega) (by simpa using q8) (by rw [hy]; simp; omega)
      rw [List.drop_zero] at this
      rw [this, hy, splice_one vs c y hc]
theorem opt_no (r : RF) : RX.opt r none = none := (rfl)
theorem opt_so (r : RF) (x : RX) : RX.opt r (some x) = some (x.ev r) := (rfl)
theorem bound_some {k : IntKind} {m d y : Nat} (h : m ≤ y) : bound (some (.int k (m : Int))) d y = some m := by
  simp only [bound, V.onInt, leB_dec]
  rw [show (decide ((0 : Int) ≤ (m : Int)) && decide ((m : Int) ≤ (y : Int))) = true from by simp; omega]
  simp
theorem bound_none (d y : Nat) : bound none d y = some d := rfl
theorem SlV.cut {h : Heap} {size : Nat} {v : V} {n : Nat} {vs : List V} (H : SlV h size v n vs) {k k' : IntKind} {lo hi : Nat} (h1 : lo ≤ hi) (h2 : hi ≤ n) (lov hiv : Option V)
    (hlo : lov = some (.int k lo) ∨ lov = none ∧ lo = 0) (hhi : hiv = some (.int k' hi) ∨ hiv = none ∧ hi = n) (hcap : ∀ b off l c, v = .slice b off l c → l ≤ c) :
    ∃ v', sliceV size v lov hiv none = some v' ∧ SlV h size v' (hi - lo) ((vs.drop (lo * size)).take ((hi - lo) * size)) ∧ ∀ b, v'.blk b → v.blk b := by
  obtain ⟨q1, q2⟩ := H
  have hll : ((vs.drop (lo * size)).take ((hi - lo) * size)).length = (hi - lo) * size := by
    rw [List.length_take, List.length_drop, q1]
    have e1 := Nat.mul_le_mul_right size h1
    have e2 := Nat.mul_le_mul_right size h2
    rw [Nat.sub_mul]
    omega
  have bl : ∀ y, lo ≤ y → bound lov 0 y = some lo := by
    intro y hy
    rcases hlo with rfl | ⟨rfl, rfl⟩
    · exact bound_some hy
    · rfl
  have bh : ∀ d y, n = d → n ≤ y → bound hiv d y = some hi := by
    intro d y hd hy
    rcases hhi with rfl | ⟨rfl, rfl⟩
    · exact bound_some (by omega)
    · rw [bound_none, hd]
  have piece : ∀ (b : Pa) (off : Nat), AtL h b off vs → AtL h b (off + lo * size) ((vs.drop (lo * size)).take ((hi - lo) * size)) := by
    rintro b off ⟨a1, us, a2, a3, a4⟩
    have e1 := Nat.mul_le_mul_right size h1
    have e2 := Nat.mul_le_mul_right size h2
    refine ⟨a1, us, a2, ?_, ?_⟩
    · rw [hll, Nat.sub_mul]; omega
    · rw [hll, ← List.drop_drop]
      have : (us.drop off).drop (lo * size) = (((us.drop off).take vs.length).drop (lo * size)) ++ (us.drop off).drop vs.length := by
        rw [← List.drop_append_of_le_length (by rw [List.length_take, List.length_drop]; omega), List.take_append_drop]
      rw [this, a4, List.take_append_of_le_length (by rw [List.length_drop, q1, Nat.sub_mul]; omega)]
  cases v <;> simp only at q2 <;> try (exact q2.elim)
  case nilslice =>
    subst q2
    obtain rfl : hi = 0 := by omega
    obtain rfl : lo = 0 := by omega
    refine ⟨.nilslice, ?_, ⟨hll, rfl⟩, fun b hb => hb⟩
    simp only [sliceV, sliceNil, bh 0 0 rfl (Nat.le_refl _), bl 0 (Nat.le_refl _)]
  case slice b off len cap =>
    obtain ⟨rfl, q3⟩ := q2
    have hc := hcap b off len cap rfl
    have e : sliceV size (.slice b off len cap) lov hiv none = some (.slice b (bif Nat.beq cap lo then off else off + lo * size) (hi - lo) (cap - lo)) := by
      simp only [sliceV, sliceKnown, bh len cap rfl hc, bl hi h1]
    rw [e]
    refine ⟨_, rfl, ⟨hll, rfl, ?_⟩, fun b' hb => hb⟩
    cases hb : Nat.beq cap lo with
    | false => exact piece b off q3
    | true =>
      rw [Nat.beq_eq] at hb
      obtain rfl : hi = lo := by omega
      obtain ⟨a1, us, a2, a3, a4⟩ := q3
      refine ⟨a1, us, a2, ?_, ?_⟩ <;> simp
      omega
  case gslice b off len idx =>
    obtain ⟨rfl, q3⟩ := q2
    by_cases hlt : lo < len
    · have e : sliceV size (.gslice b off len idx) lov hiv none = some (.gslice b (off + lo * size) (hi - lo) (idx + lo)) := by
        simp only [sliceV, sliceGrown, bh len len rfl (Nat.le_refl _), bl hi h1]
        rw [show Nat.blt lo len = true from by rw [Nat.blt_eq]; exact hlt]
        rfl
      rw [e]
      exact ⟨_, rfl, ⟨hll, rfl, piece b off q3⟩, fun b' hb => hb⟩
    · have e : sliceV size (.gslice b off len idx) lov hiv none = some (.tslice b off (off + lo * size) (idx + lo)) := by
        simp only [sliceV, sliceGrown, bh len len rfl (Nat.le_refl _), bl hi h1]
        rw [show Nat.blt lo len = false from by rw [← Bool.not_eq_true, Nat.blt_eq]; exact hlt]
        rfl
      rw [e]
      exact ⟨_, rfl, ⟨hll, by omega⟩, fun b' hb => hb.elim⟩
  case tslice b off off' idx =>
    subst q2
    obtain rfl : hi = 0 := by omega
    obtain rfl : lo = 0 := by omega
    refine ⟨.tslice b off off' idx, ?_, ⟨hll, rfl⟩, fun b hb => hb⟩
    simp only [sliceV, sliceTail, bh 0 0 rfl (Nat.le_refl _), bl 0 (Nat.le_refl _)]
theorem SlO.cut {B : Nat} {h : Heap} {size : Nat} {v : V} {n : Nat} {vs : List V} (H : SlO B h size v n vs) {k : IntKind} {m : Nat} (hm : m ≤ n) (hn : 1 ≤ n) :
    ∃ v', sliceV size v none (some (.int k m)) none = some v' ∧ SlO B h size v' m (vs.take (m * size)) ∧ ∀ b, v'.blk b → v.blk b := by
  obtain ⟨q1, q2⟩ := H
  have hmm := Nat.mul_le_mul_right size hm
  have hll : (vs.take (m * size)).length = m * size := by rw [List.length_take]; omega
  cases v <;> simp only at q2 <;> try (first | omega | exact q2.elim)
  case slice b off len cap =>
    obtain ⟨rfl, q3, q4, q5, q6, us, esz, st, q7, q8, q9⟩ := q2
    have e : sliceV size (.slice b off len cap) none (some (.int k m)) none = some (.slice b off m cap) := by
      simp only [sliceV, sliceKnown, bound_some (show m ≤ cap by omega), bound_none]
      cases Nat.beq cap 0 <;> simp
    rw [e]
    refine ⟨_, rfl, ⟨hll, rfl, q3, q4, by omega, q6, us, esz, st, q7, q8, ?_⟩, fun b' hb => hb⟩
    rw [hll, ← q9, List.take_take]
    congr 1
    omega
  case gslice b off len idx =>
    obtain ⟨rfl, q3, q4, rfl, rfl, us, st, q7, q8, q9⟩ := q2
    have e : sliceV size (.gslice b 0 len 0) none (some (.int k m)) none = some (.gslice b 0 m 0) := by
      simp only [sliceV, sliceGrown, bound_some hm, bound_none]
      rw [show Nat.blt 0 len = true from by rw [Nat.blt_eq]; omega]
      simp
    rw [e]
    refine ⟨_, rfl, ⟨hll, rfl, q3, q4, rfl, rfl, us, st, q7, by omega, ?_⟩, fun b' hb => hb⟩
    rw [hll, ← q9, List.take_take]
    congr 1
    omega
theorem nil_ptr (b : Pa) (o : Nat) : nilCheckV (.ptr b o) = some (.ptr b o) := rfl
theorem mn_two (k k' : IntKind) (a b : Int) : pickV (fun b a => !Int.leB a b) [.int k a, .int k' b] = some (.int k (if b < a then b else a)) := by
  simp only [pickV, pickFrom, V.onInt, leB_dec]
  by_cases h : b < a
  · rw [if_pos h]
    have : ¬ a ≤ b := by omega
    simp [this]
  · rw [if_neg h]
    have : a ≤ b := by omega
    simp [this]
theorem mx_two (k k' : IntKind) (a b : Int) : pickV (fun b a => !Int.leB b a) [.int k a, .int k' b] = some (.int k (if a < b then b else a)) := by
  simp only [pickV, pickFrom, V.onInt, leB_dec]
  by_cases h : a < b
  · rw [if_pos h]
    have : ¬ b ≤ a := by omega
    simp [this]
  · rw [if_neg h]
    have : b ≤ a := by omega
    simp [this]
theorem AtL.cell {h : Heap} {b : Pa} {off : Nat} {vs : List V} (H : AtL h b off vs) {i j n : Nat} {ws : List V} (hw : (vs.drop i).take n = ws) (hi : i + n ≤ vs.length) (hj : j < n) : ld1B (h.get b) (off + i + j) = ws[j]? := by
  rw [Nat.add_assoc, H.ld1 (by omega), ← hw, List.getElem?_take_of_lt hj, List.getElem?_drop, List.getElem?_eq_getElem]
end Go.Proofs.YtjbiefneffiogaaGreat.Am

namespace Go.Proofs.YtjbiefneffiogaaGreat.Am
variable [Lay]
open Go Go.RowKit
set_option linter.defProp false
end Go.Proofs.YtjbiefneffiogaaGreat.Am

namespace Go.Proofs.YtjbiefneffiogaaGreat.Am
variable [Lay]
open Go Go.RowKit
theorem condK_tt {P : Program} {ks : List KS} {r : RF} {h : Heap} {Q : Ex → RF → Heap → Prop} {a b : RC} : condK P (.bool true) a b ks r h Q = wpK P (.c a :: ks) .normal r h Q := by
  rw [condK_bool]; simp
theorem condK_ff {P : Program} {ks : List KS} {r : RF} {h : Heap} {Q : Ex → RF → Heap → Prop} {a b : RC} : condK P (.bool false) a b ks r h Q = wpK P (.c b :: ks) .normal r h Q := by
  rw [condK_bool]; simp
theorem beqBytes_dec (a b : List UInt8) : beqBytes a b = decide (a = b) := by
  rw [beqBytes_eq, Bool.eq_iff_iff]
  simp
theorem bound_if (k : IntKind) (b : Int) (d y : Nat) : bound (some (.int k b)) d y = if 0 ≤ b ∧ b ≤ (y : Int) then some b.toNat else none := by
  simp only [bound, V.onInt, leB_dec]
  by_cases h1 : 0 ≤ b <;> by_cases h2 : b ≤ (y : Int) <;> simp [h1, h2]
theorem sl_hi (s : List UInt8) (k : IntKind) (b : Int) : sliceStr (.str s) none (some (.int k b)) none = if 0 ≤ b ∧ b ≤ (s.length : Int) then some (.str (s.take b.toNat)) else none := by
  simp only [sliceStr, bound_if]
  by_cases h : 0 ≤ b ∧ b ≤ (s.length : Int)
  · simp only [h, and_self, if_true, bound, List.drop_zero, Nat.sub_zero]
  · simp only [h, if_false]
theorem sl_lo (s : List UInt8) (k : IntKind) (a : Int) : sliceStr (.str s) (some (.int k a)) none none = if 0 ≤ a ∧ a ≤ (s.length : Int) then some (.str (s.drop a.toNat)) else none := by
  simp only [sliceStr, bound_none, bound_if]
  by_cases h : 0 ≤ a ∧ a ≤ (s.length : Int)
  · simp only [h, and_self, if_true]
    rw [List.take_of_length_le (by rw [List.length_drop]; omega)]
  · simp only [h, if_false]
theorem sl_two (s : List UInt8) (k k' : IntKind) (a b : Int) : sliceStr (.str s) (some (.int k a)) (some (.int k' b)) none = if 0 ≤ a ∧ a ≤ b ∧ b ≤ (s.length : Int) then some (.str ((s.drop a.toNat).take (b.toNat - a.toNat))) else none := by
  simp only [sliceStr, bound_if]
  by_cases h : 0 ≤ b ∧ b ≤ (s.length : Int)
  · simp only [h, and_self, if_true]
    by_cases h2 : 0 ≤ a ∧ a ≤ b
    · have : 0 ≤ a ∧ a ≤ ((b.toNat : Nat) : Int) := by omega
      simp only [this, and_self, if_true, h2, h]
    · have h3 : ¬ (0 ≤ a ∧ a ≤ ((b.toNat : Nat) : Int)) := by omega
      have h4 : ¬ (0 ≤ a ∧ a ≤ b ∧ b ≤ (s.length : Int)) := by omega
      have h5 : ¬ (0 ≤ a ∧ a ≤ b ∧ True) := fun q => h2 ⟨q.1, q.2.1⟩
      rw [if_neg h5, if_neg h3]
  · have h4 : ¬ (0 ≤ a ∧ a ≤ b ∧ b ≤ (s.length : Int)) := by omega
    simp only [h, h4, if_false]
theorem sl_all (s : List UInt8) : sliceStr (.str s) none none none = some (.str s) := by
  simp only [sliceStr, bound_none, List.drop_zero, Nat.sub_zero, List.take_length]
section
variable {P : Program}
theorem s_eql (a b : List UInt8) : (BK.str .eql).run P (.str a) (.str b) = some (.bool (decide (a = b))) := by simp only [BK.run, strC, strB, beqBytes_dec]
theorem s_add (a b : List UInt8) : (BK.str .add).run P (.str a) (.str b) = if a.length + b.length ≤ top then some (.str (a ++ b)) else none := by
  simp only [BK.run, strC, strAdd]
  by_cases h : a.length + b.length ≤ top
  · rw [if_pos h, show Nat.ble (a.length + b.length) top = true from by rw [Nat.ble_eq]; exact h]
    rfl
  · rw [if_neg h, show Nat.ble (a.length + b.length) top = false from by rw [← Bool.not_eq_true, Nat.ble_eq]; exact h]
    rfl
theorem s_ix (s : List UInt8) (k : IntKind) (i : Int) : indexStr.run (.str s) (.int k i) = if 0 ≤ i ∧ i < (s.length : Int) then some (.int .u8 (((s[i.toNat]?).getD 0).toNat : Int)) else none := by
  simp only [indexStr, V.onInt, leB_dec]
  by_cases h1 : 0 ≤ i
  · simp only [h1, decide_true, cond_true, true_and]
    by_cases h2 : i < (s.length : Int)
    · rw [if_pos h2, List.getElem?_eq_getElem (by omega)]
      rfl
    · rw [if_neg h2, List.getElem?_eq_none (by omega)]
  · simp only [h1, decide_false, cond_false, false_and, if_false]
theorem s_neq (a b : List UInt8) : (BK.str .neq).run P (.str a) (.str b) = some (.bool (!decide (a = b))) := by simp only [BK.run, strC, strB, beqBytes_dec]
end
end Go.Proofs.YtjbiefneffiogaaGreat.Am

namespace Go.Proofs.YtjbiefneffiogaaGreat.Am
open Go Go.RowKit
set_option linter.defProp false
def wqA1 :=
  And.intro @k_nil <| And.intro @k_blk <| And.intro @k_seq <| And.intro @k_block <| And.intro @k_reg <| And.intro @k_skip <| And.intro @k_ret <| And.intro @k_exit <| And.intro @k_cret <| And.intro @k_cexit <| And.intro @k_cond <| And.intro @k_loop <| And.intro @k_draw <| And.intro @k_osnil <| And.intro @k_mv <| And.intro @kg_mv <| And.intro @k_pick <| And.intro @kg_pick <| And.intro @k_build <| And.intro @kg_build <| And.intro @k_ld1 <| And.intro @kg_ld1 <| And.intro @k_ldn <| And.intro @kg_ldn <| And.intro @k_nilck <| And.intro @kg_nilck <| And.intro @k_bin <| And.intro @kg_bin <| And.intro @k_un <| And.intro @kg_un <| And.intro @k_fn <| And.intro @kg_fn <| And.intro @k_ifc <| And.intro @kg_ifc <| And.intro @k_slstr <| And.intro @kg_slstr <| And.intro @k_sl <| And.intro @kg_sl <| And.intro @k_fa <| @kg_fa
def wqA2 :=
  And.intro @k_fld1 <| And.intro @kg_fld1 <| And.intro @k_fldn <| And.intro @kg_fldn <| And.intro @k_ia <| And.intro @kg_ia <| And.intro @k_iaa <| And.intro @kg_iaa <| And.intro @k_ixs <| And.intro @kg_ixs <| And.intro @k_ix <| And.intro @kg_ix <| And.intro @k_look <| And.intro @kg_look <| And.intro @k_ext <| And.intro @kg_ext <| And.intro @k_mn <| And.intro @kg_mn <| And.intro @k_mx <| And.intro @kg_mx <| And.intro @k_cvint <| And.intro @kg_cvint <| And.intro @k_lenslice <| And.intro @kg_lenslice <| And.intro @k_lenstr <| And.intro @kg_lenstr <| And.intro @k_lenarr <| And.intro @kg_lenarr <| And.intro @k_new <| And.intro @kg_new <| And.intro @k_box <| And.intro @kg_box <| And.intro @k_bsl <| And.intro @kg_bsl <| And.intro @k_st <| And.intro @kg_st <| And.intro @k_mksl <| And.intro @kg_mksl <| And.intro @k_upd <| @kg_upd
def wqA3 :=
  And.intro @k_mkm <| And.intro @kg_mkm <| And.intro @k_rngs <| And.intro @kg_rngs <| And.intro @k_nxt <| And.intro @kg_nxt <| And.intro @k_app <| And.intro @kg_app <| And.intro @k_copy <| And.intro @kg_copy <| And.intro @k_lenmap <| And.intro @kg_lenmap <| And.intro @k_cvbytes <| And.intro @kg_cvbytes <| And.intro @k_cvstr <| And.intro @kg_cvstr <| And.intro @k_cvoth <| And.intro @kg_cvoth <| And.intro @kg_call <| And.intro @kg_callv <| And.intro @k_call <| And.intro @k_callv <| @k_dnil
def wqB1 :=
  And.intro @sv_some <| And.intro @so_val <| And.intro @condK_tt <| And.intro @condK_ff <| And.intro @callv_func <| And.intro @rngO_str <| And.intro @bslO_some <| And.intro @boxO_true <| And.intro @orH_some <| And.intro @fill_nil <| And.intro @fill_if <| And.intro @buildO_some <| And.intro @evPs_nil <| And.intro @evPs_cons <| And.intro @pickB_bool <| And.intro @fa_ptr <| And.intro @on_tup <| And.intro @on_agg <| And.intro @lens_sl <| And.intro @lens_g <| And.intro @lens_t <| And.intro @lens_nil <| And.intro @lenst_str <| And.intro @ia_sl <| And.intro @ia_g <| And.intro @cvi_int <| And.intro @ev_t <| And.intro @ev_c <| And.intro @trim_get <| And.intro @set_get <| And.intro @set_no <| And.intro @ofL_hd <| And.intro @ofL_tl <| And.intro @opt_true <| And.intro @opt_false <| And.intro @vif_true <| And.intro @vif_false <| And.intro @bif_bool <| And.intro @bif_int <| @bif_optn
def wqB2 :=
  And.intro @bif_or <| And.intro @bif_and <| And.intro @Imp_T <| And.intro @Imp_true <| And.intro @Imp_false <| And.intro @took_bool <| And.intro @took_tuple <| And.intro @took_opt <| And.intro @isGate_bool <| And.intro @isGate_tuple <| And.intro @isGate_opt <| And.intro @k_add <| And.intro @k_sub <| And.intro @k_mul <| And.intro @k_eql <| And.intro @k_neq <| And.intro @k_lss <| And.intro @k_leq <| And.intro @k_gtr <| And.intro @k_geq <| And.intro @k_beql <| And.intro @k_bneq <| And.intro @u_not <| And.intro @u_neg <| And.intro @load1_ptr <| And.intro @loadn_ptr <| And.intro @ld1_ofL <| And.intro @ld1_ro <| And.intro @ldn_ofL <| And.intro @ldn_ro <| And.intro @store_ptr <| And.intro @lay_if <| And.intro @get_new_self <| And.intro @get_new <| And.intro @get_set <| And.intro @pa_eq <| And.intro @next_new <| And.intro @next_set <| And.intro @newCells_if <| @cells_bool
def wqB3 :=
  And.intro @one_bool <| And.intro @good_bool <| And.intro @cells_int <| And.intro @one_int <| And.intro @good_int <| And.intro @cells_str <| And.intro @one_str <| And.intro @good_str <| And.intro @cells_nilptr <| And.intro @one_nilptr <| And.intro @good_nilptr <| And.intro @cells_ptr <| And.intro @one_ptr <| And.intro @good_ptr <| And.intro @cells_slice <| And.intro @one_slice <| And.intro @good_slice <| And.intro @cells_gslice <| And.intro @one_gslice <| And.intro @good_gslice <| And.intro @cells_tslice <| And.intro @one_tslice <| And.intro @good_tslice <| And.intro @cells_nilslice <| And.intro @one_nilslice <| And.intro @good_nilslice <| And.intro @cells_nilmap <| And.intro @one_nilmap <| And.intro @good_nilmap <| And.intro @cells_map <| And.intro @one_map <| And.intro @good_map <| And.intro @cells_func <| And.intro @one_func <| And.intro @good_func <| And.intro @cells_nilfunc <| And.intro @one_nilfunc <| And.intro @good_nilfunc <| And.intro @cells_iface <| @one_iface
def wqB4 :=
  And.intro @good_iface <| And.intro @cells_nilIface <| And.intro @one_nilIface <| And.intro @good_nilIface <| And.intro @cells_agg <| And.intro @good_agg <| And.intro @good_tuple <| And.intro @leave_normal <| And.intro @leave_ret <| And.intro @leave_exit <| And.intro @beq_true <| And.intro @beq_false <| And.intro @Bool.not_true <| And.intro @Bool.not_false <| And.intro @Bool.true_and <| And.intro @Bool.and_true <| And.intro @Bool.false_and <| And.intro @Bool.and_false <| And.intro @Bool.not_not <| And.intro @V.bool.injEq <| And.intro @Nat.zero_add <| And.intro @Nat.add_zero <| And.intro @then_normal <| And.intro @then_ret <| And.intro @then_exit <| And.intro @Bool.true_eq_false <| And.intro @Bool.false_eq_true <| And.intro @toN_int <| And.intro @pushD_none <| And.intro @pushD_some <| And.intro @asks_nil <| And.intro @asks_cons <| And.intro @ask_nil <| And.intro @ask_cons <| And.intro @heapF_o <| And.intro @heapO_some <| And.intro @heapO_none <| And.intro @ask_ld1 <| And.intro @ask_ldn <| @askg_ld1
def wqB5 :=
  And.intro @askg_ldn <| And.intro @nx1 <| And.intro @xn1 <| And.intro @nx2 <| And.intro @xn2 <| And.intro @nx3 <| And.intro @xn3 <| And.intro @nx4 <| And.intro @xn4 <| And.intro @nx5 <| And.intro @xn5 <| And.intro @nx6 <| And.intro @xn6 <| And.intro @nx7 <| And.intro @xn7 <| And.intro @nx8 <| And.intro @xn8 <| And.intro @gateK_tt <| And.intro @gateK_ff <| And.intro @gateK_tf <| And.intro @gateK_ft <| And.intro @gateK_tuple <| And.intro @Bool.or_false <| And.intro @Bool.false_or <| And.intro @Bool.or_true <| And.intro @Bool.true_or <| And.intro @nil_ptr <| And.intro @mn_two <| And.intro @mx_two <| And.intro @opt_no <| And.intro @opt_so <| And.intro @add11 <| And.intro @add21 <| And.intro @add31 <| And.intro @add41 <| And.intro @add51 <| And.intro @add61 <| And.intro @add71 <| And.intro @add81 <| @add91
def wqB6 :=
  And.intro @add101 <| And.intro @add111 <| And.intro @add121 <| And.intro @add131 <| And.intro @add141 <| And.intro @add151 <| And.intro @sl_hi <| And.intro @sl_lo <| And.intro @sl_two <| And.intro @sl_all <| And.intro @s_eql <| And.intro @s_neq <| And.intro @s_add <| @s_ix
end Go.Proofs.YtjbiefneffiogaaGreat.Am

namespace Go.Proofs.YtjbiefneffiogaaGreat.Am
variable [Lay]
open Go Go.RowKit
theorem app_one {B : Nat} {h : Heap} {size : Nat} {s : V} {n : Nat} {us cs : List V} (hsz : 1 ≤ size) (H1 : SlO B h size s n us) (hB : B ≤ h.next) (hlen : (n + 1) * size ≤ top) (hcs : cs.length = size) (ho : ones cs = true) :
    ∃ v h', appV size s (.slice (pa h.next) 0 1 1) (h.new (.ofL cs 0 false)) = .val v h' ∧ SlO B h' size v (n + 1) (us ++ cs) ∧ Mod s.blk h h' ∧ h.next + 1 ≤ h'.next ∧ ∀ b, v.blk b → s.blk b ∨ h.next < unPa b := by
  have hx : Ext h (h.new (.ofL cs 0 false)) := (Ext.refl h).new _
  have hv : SlV (h.new (.ofL cs 0 false)) size (.slice (pa h.next) 0 1 1) 1 cs := by
    refine ⟨by rw [hcs]; omega, rfl, old_lt (by rw [next_new]; omega), cs, .inr ⟨0, false, by rw [get_new_self]⟩, by omega, by simp⟩
  obtain ⟨v, h', q1, q2, q3, q4⟩ := app_own hsz (H1.ext hx) hv (by rw [next_new]; omega) hlen ho
  refine ⟨v, h', q1, q2, (hx.mod _).trans q3, by have := q3.next; rw [next_new] at this; exact this, fun b hb => ?_⟩
  rcases q4 b hb with q | q
  · exact .inl q
  · exact .inr (by rw [next_new] at q; omega)
theorem uint8s_bytes : ∀ l : List UInt8, uint8s (bytesV l) = some l
  | [] => rfl
  | c :: l => by
    have ih := uint8s_bytes l
    simp only [bytesV, uint8s, ih]
    simp
theorem bytesV_len : ∀ l : List UInt8, (bytesV l).length = l.length
  | [] => rfl
  | c :: l => by simp only [bytesV, List.length_cons, bytesV_len l]
theorem bytesV_append : ∀ l m : List UInt8, bytesV (l ++ m) = bytesV l ++ bytesV m
  | [], m => rfl
  | c :: l, m => by simp only [bytesV, List.cons_append, bytesV_append l m]
theorem bytesV_ones : ∀ l : List UInt8, ones (bytesV l) = true
  | [] => rfl
  | c :: l => by
    have ih := bytesV_ones l
    simp only [bytesV, ones, ih, one_int, Bool.and_true]
theorem strAt_of {h : Heap} {b : Pa} {us : List V} {esz : Nat} {st : Bool} {off : Nat} {l : List UInt8} (hg : h.get b = .ofL us esz st) (hl : off + l.length ≤ us.length) (hu : (us.drop off).take l.length = bytesV l) : strAt b off l.length h = .val (.str l) h := by
  unfold strAt
  rw [hg]
  simp only [Blk.see, Blk.ofL]
  rw [show Nat.ble (off + l.length) us.length = true from by rw [Nat.ble_eq]; exact hl]
  simp only [cond_true]
  rw [gets_eq us l.length off hl, hu, uint8s_bytes]
theorem convStr_own {B : Nat} {h : Heap} {v : V} {n : Nat} {l : List UInt8} (H : SlO B h 1 v n (bytesV l)) : convStr.run v h = .val (.str l) h := by
  have h1 := H.1
  rw [bytesV_len, Nat.mul_one] at h1
  have h2 := H.2
  cases v <;> simp only at h2 <;> try (exact h2.elim)
  case nilslice =>
    subst h2
    rw [List.length_eq_zero_iff] at h1
    subst h1
    rfl
  case slice =>
    obtain ⟨q1, q2, q3, q4, q5, us, esz, st, q6, q7, q8⟩ := h2
    rw [bytesV_len] at q8
    simp only [convStr]
    rw [q1, ← h1]
    exact strAt_of q6 (by omega) q8
  case gslice =>
    obtain ⟨q1, q2, q3, q4, q5, us, st, q6, q7, q8⟩ := h2
    rw [bytesV_len] at q8 q7
    simp only [convStr]
    rw [q1, q4, ← h1]
    exact strAt_of q6 (by omega) (by simpa using q8)
noncomputable def appS (size : Nat) (s : V) (m : Nat) (vs : List V) (h : Heap) : OR := match s with
  | .nilslice => appNil size m vs h
  | .slice b off len cap => appKnown size b off len cap m vs h
  | .gslice b off len idx => appGrown size b off len idx m vs h
  | _ => .fail
theorem app_gen {B : Nat} {h : Heap} {size : Nat} {s x : V} {n m : Nat} {us vs : List V} (hsz : 1 ≤ size) (H1 : SlO B h size s n us) (hl2 : vs.length = m * size) (hAv : appV size s x h = appS size s m vs h) (hB : B ≤ h.next) (hlen : (n + m) * size ≤ top) (ho : ones vs = true) :
    ∃ v h', appV size s x h = .val v h' ∧ SlO B h' size v (n + m) (us ++ vs) ∧ Mod s.blk h h' ∧ ∀ b, v.blk b → s.blk b ∨ h.next ≤ unPa b := by
  have hnm : n + m ≤ top := Nat.le_trans (Nat.le_mul_of_pos_right _ hsz) hlen
  have hl1 := H1.1
  have hll : (us ++ vs).length = (n + m) * size := by rw [List.length_append, hl1, hl2, Nat.add_mul]
  rw [hAv]
  unfold appS
  have h2 := H1.2
  cases s <;> simp only at h2 ⊢ <;> try (exact h2.elim)
  case nilslice =>
    subst h2
    have : us = [] := List.eq_nil_of_length_eq_zero (by omega)
    subst this
    unfold appNil
    by_cases hm : m = 0
    · subst hm
      have : vs = [] := List.eq_nil_of_length_eq_zero (by omega)
      subst this
      exact ⟨.nilslice, h, rfl, ⟨by simp, rfl⟩, Mod.refl _ _, fun b hb => .inl hb⟩
    · rw [show Nat.beq m 0 = false from by rw [← Bool.not_eq_true, Nat.beq_eq]; exact hm]
      simp only [cond_false]
      rw [newGrow_eq (by rw [hl2]; simpa using hlen) hsz]
      refine ⟨_, _, rfl, ?_, (Mod.refl _ _).new _, fun b hb => .inr (by rw [show b = pa h.next from hb, unPa_pa]; exact Nat.le_refl _)⟩
      have := SlO.grown (B := B) (h := h) (size := size) (vs := vs) (n := m) (st := false) hl2 hB
      simpa using this
  case slice b off len cap =>
    obtain ⟨rfl, q2, q3, q4, q5, us0, esz, st, q6, q7, q8⟩ := h2
    unfold appKnown
    by_cases hc : len + m ≤ cap
    · rw [show Nat.ble (len + m) cap = true from by rw [Nat.ble_eq]; exact hc]
      simp only [cond_true]
      have hroom : off + len * size + vs.length ≤ us0.length := by
        have := Nat.mul_le_mul_right size hc
        rw [Nat.add_mul] at this
        rw [hl2]
        omega
      rw [Own.lay (vs := us0) (esz := esz) (st := st) q6 hroom ho]
      refine ⟨_, _, rfl, ⟨hll, rfl, q2, q3, hc, q5, _, esz, st, get_set _ _ _ |>.trans (if_pos rfl), ?_, ?_⟩, (Mod.refl (V.blk (.slice b off len cap)) h).set (fun _ => rfl) _, fun b' hb => .inl hb⟩
      · rw [splice_length _ _ _ hroom]; exact q7
      · rw [List.length_append]
        unfold splice
        have hlo : off + us.length ≤ us0.length := by rw [hl1]; omega
        have e1 : us0.take (off + len * size) = us0.take off ++ us := by
          rw [← hl1, List.take_add, q8]
        rw [e1, List.append_assoc, List.append_assoc, List.drop_append, List.drop_eq_nil_of_le (by rw [List.length_take]; omega), List.nil_append]
        rw [show off - (us0.take off).length = 0 from by rw [List.length_take]; omega, List.drop_zero]
        rw [← List.append_assoc, List.take_left' (by rw [List.length_append])]
    · rw [show Nat.ble (len + m) cap = false from by rw [← Bool.not_eq_true, Nat.ble_eq]; exact hc]
      simp only [cond_false]
      rw [show (Nat.ble (len + m) top && Nat.ble cap top) = true from by simp only [Bool.and_eq_true, Nat.ble_eq]; exact ⟨hnm, q5⟩]
      simp only [cond_true]
      have hat : AtL h b off us := ⟨q3, us0, .inr ⟨esz, st, q6⟩, by rw [hl1]; have := Nat.mul_le_mul_right size q4; omega, q8⟩
      rw [srcAt_of hat hl1]
      simp only
      rw [newGrow_eq (by rw [hll]; exact hlen) hsz]
      exact ⟨_, _, rfl, SlO.grown hll hB, (Mod.refl _ _).new _, fun b hb => .inr (by rw [show b = pa h.next from hb, unPa_pa]; exact Nat.le_refl _)⟩
  case gslice b off len idx =>
    obtain ⟨rfl, q2, q3, rfl, rfl, us0, st, q6, q7, q8⟩ := h2
    unfold appGrown
    by_cases hm : m = 0
    · subst hm
      have : vs = [] := List.eq_nil_of_length_eq_zero (by omega)
      subst this
      exact ⟨_, h, rfl, ⟨hll, rfl, q2, q3, rfl, rfl, us0, st, q6, by simpa using q7, by simpa using q8⟩, Mod.refl _ _, fun b hb => .inl hb⟩
    · rw [show Nat.beq m 0 = false from by rw [← Bool.not_eq_true, Nat.beq_eq]; exact hm]
      simp only [cond_false]
      rw [q6]
      simp only [Blk.ofL, Blk.on]
      rw [show (Nat.beq size size && (Nat.ble (len + m) top && ones vs) && Nat.beq 0 (0 * size)) = true from by
        simp only [Bool.and_eq_true, Nat.beq_eq, Nat.ble_eq]
        exact ⟨⟨trivial, hnm, ho⟩, by omega⟩]
      simp only [cond_true]
      have hat : AtL h b 0 us := ⟨q3, us0, .inr ⟨size, st, q6⟩, by omega, by simpa using q8⟩
      rw [srcAt_of hat hl1]
      simp only
      rw [newGrow_eq (by rw [hll]; exact hlen) hsz]
      exact ⟨_, _, rfl, SlO.grown (h := h.set b .dead) hll hB, ((Mod.refl (V.blk (.gslice b 0 len 0)) h).set (fun _ => rfl) _).new _, fun b' hb => .inr (by rw [show b' = pa h.next from hb, unPa_pa]; exact Nat.le_refl _)⟩
theorem app_str {B : Nat} {h : Heap} {s : V} {n : Nat} {us : List V} (t : List UInt8) (H1 : SlO B h 1 s n us) (hB : B ≤ h.next) (hlen : n + t.length ≤ top) :
    ∃ v h', appV 1 s (.str t) h = .val v h' ∧ SlO B h' 1 v (n + t.length) (us ++ bytesV t) ∧ Mod s.blk h h' ∧ ∀ b, v.blk b → s.blk b ∨ h.next ≤ unPa b := by
  refine app_gen (by omega) H1 (by rw [bytesV_len, Nat.mul_one]) ?_ hB (by omega) (bytesV_ones t)
  have hn : Nat.ble t.length top = true := by rw [Nat.ble_eq]; omega
  have hsrc : srcCells h 1 (.str t) t.length = some (bytesV t) := by
    simp only [srcCells]
    rw [show Nat.ble t.length t.length = true from by rw [Nat.ble_eq]; exact Nat.le_refl _, List.take_length]
    rfl
  unfold appV appS
  simp only [lenV]
  rw [hsrc]
  simp only [hn]
  rfl
theorem strAt_ro {h : Heap} {b : Pa} {us : List V} {off : Nat} {l : List UInt8} (hg : h.get b = .ro us) (hl : off + l.length ≤ us.length) (hu : (us.drop off).take l.length = bytesV l) : strAt b off l.length h = .val (.str l) h := by
  unfold strAt
  rw [hg]
  simp only [Blk.see, Blk.ro]
  rw [show Nat.ble (off + l.length) us.length = true from by rw [Nat.ble_eq]; exact hl]
  simp only [cond_true]
  rw [gets_eq us l.length off hl, hu, uint8s_bytes]
theorem convStr_v {h : Heap} {v : V} {n : Nat} {l : List UInt8} (H : SlV h 1 v n (bytesV l)) : convStr.run v h = .val (.str l) h := by
  have h1 := H.1
  rw [bytesV_len, Nat.mul_one] at h1
  have h2 := H.2
  have key : ∀ (b : Pa) (off : Nat), AtL h b off (bytesV l) → strAt b off l.length h = .val (.str l) h := by
    intro b off ⟨_, us, q1, q2, q3⟩
    rw [bytesV_len] at q2 q3
    rcases q1 with q1 | ⟨esz, st, q1⟩
    · exact strAt_ro q1 q2 q3
    · exact strAt_of q1 q2 q3
  cases v <;> simp only at h2 <;> try (exact h2.elim)
  case nilslice =>
    subst h2
    rw [List.length_eq_zero_iff] at h1
    subst h1
    rfl
  case slice =>
    simp only [convStr]
    rw [h2.1, ← h1]
    exact key _ _ h2.2
  case gslice =>
    simp only [convStr]
    rw [h2.1, ← h1]
    exact key _ _ h2.2
  case tslice =>
    subst h2
    rw [List.length_eq_zero_iff] at h1
    subst h1
    rfl
end Go.Proofs.YtjbiefneffiogaaGreat.Am

namespace Go.Proofs.YtjbiefneffiogaaGreat.Am
variable [Lay]
set_option linter.defProp false
open Go Go.RowKit
def wA := And.intro @wqA1 <| And.intro @wqA2 @wqA3
def wB := And.intro @wqB1 <| And.intro @wqB2 <| And.intro @wqB3 <| And.intro @wqB4 <| And.intro @wqB5 @wqB6
def wZ := And.intro @Option.isSome_some.{0} <| And.intro @Option.getD_some.{0} <| And.intro @if_true.{1} <| And.intro @if_false.{1} <| And.intro @true_and <| And.intro @and_true <| And.intro @List.getElem?_cons_zero.{0} <| And.intro @List.getElem?_cons_succ.{0} <| And.intro @List.length_cons.{0} <| And.intro @List.length_nil.{0} <|
  And.intro @List.drop_zero.{0} <| And.intro @List.drop_succ_cons.{0} <| And.intro @List.take_succ_cons.{0} <| And.intro @List.take_zero.{0} <| And.intro @List.cons_append.{0} <| And.intro @List.nil_append.{0} <| And.intro @Option.some.injEq.{0} <| And.intro @exists_eq_left'.{1} <| And.intro @List.cons.injEq.{0} <|
  And.intro @Nat.succ_ne_zero <| And.intro @imp_T <| And.intro @imp_F <| And.intro @List.getElem?_nil.{0} <| And.intro @decide_true <| And.intro @decide_false <| And.intro @eq_self.{1} <| And.intro @not_true_eq_false <| And.intro @not_false_eq_true <| And.intro @ite_true.{1} @ite_false.{1}
end Go.Proofs.YtjbiefneffiogaaGreat.Am
