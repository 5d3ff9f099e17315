/- The abstract machine and its walks (a verified interpreter of the model's code: plain definitions and lemmas, no condition). -/
import Derived.Test.YthcgccnbhdociaaDoorM3
import Derived.ChangeArms
import Derived.DataReads
import Derived.ChangeBears
import Derived.Carry
import Derived.OpenShut
import Derived.ChangeSame
import Derived.Lib.Bytealg

namespace Go.Proofs.YthcgccnbhdociaaDoor.Am
variable [Lay]
set_option linter.unusedSectionVars false
open Go Go.RowKit

/-! What a piece of code turns; slices of one's own; append. -/
/-- the heap has grown, and of what was only such blocks have been turned -/
structure Mod (M : Pa → Prop) (h h' : Heap) : Prop where
  next : h.next ≤ h'.next
  get : ∀ b, Old h b → ¬ M b → h'.get b = h.get b

theorem Mod.refl (M : Pa → Prop) (h : Heap) : Mod M h h := ⟨Nat.le_refl _, fun _ _ _ => rfl⟩
theorem Mod.old {M : Pa → Prop} {h h' : Heap} (e : Mod M h h') {b : Pa} (hb : Old h b) : Old h' b := Nat.lt_of_lt_of_le hb e.next
theorem Mod.trans {M : Pa → Prop} {h h' h'' : Heap} (e : Mod M h h') (e' : Mod M h' h'') : Mod M h h'' :=
  ⟨Nat.le_trans e.next e'.next, fun b hb hm => (e'.get b (e.old hb) hm).trans (e.get b hb hm)⟩
theorem Mod.mono {M M' : Pa → Prop} {h h' : Heap} (e : Mod M h h') (hm : ∀ b, Old h b → M b → M' b) : Mod M' h h' :=
  ⟨e.next, fun b hb hn => e.get b hb fun q => hn (hm b hb q)⟩
theorem Mod.new {M : Pa → Prop} {h h' : Heap} (e : Mod M h h') (k : Blk) : Mod M h (h'.new k) :=
  ⟨Nat.le_succ_of_le e.next, fun b hb hm => by
    rw [get_new, if_neg (fun q => (old_ne (h := h) hb e.next) ▸ q)]
    exact e.get b hb hm⟩
theorem Mod.set {M : Pa → Prop} {h h' : Heap} (e : Mod M h h') {b : Pa} (hb : Old h b → M b) (k : Blk) : Mod M h (h'.set b k) :=
  ⟨e.next, fun b' hb' hm => by
    rw [get_set]
    by_cases q : b = b'
    · subst q
      exact absurd (hb hb') hm
    · rw [if_neg q]
      exact e.get b' hb' hm⟩
theorem Ext.mod {h h' : Heap} (e : Ext h h') (M : Pa → Prop) : Mod M h h' := ⟨e.next, fun b hb _ => e.get b hb⟩
theorem Mod.ext {M : Pa → Prop} {h h' : Heap} (e : Mod M h h') (hm : ∀ b, Old h b → ¬ M b) : Ext h h' := ⟨e.next, fun b hb => e.get b hb (hm b hb)⟩
/-- what has been turned since a later moment is new for an earlier one -/
theorem Ext.mod_new {h h' h'' : Heap} (e : Ext h h') {M : Pa → Prop} (m : Mod M h' h'') (hm : ∀ b, M b → h.next ≤ unPa b) : Ext h h'' :=
  ⟨Nat.le_trans e.next m.next, fun b hb => by
    have hnm : ¬ M b := fun q => by have := hm b q; unfold Old at hb; omega
    exact (m.get b (e.old hb) hnm).trans (e.get b hb)⟩
theorem Mod.at {M : Pa → Prop} {h h' : Heap} (e : Mod M h h') {b : Pa} {off : Nat} {vs : List V} (H : AtL h b off vs) (hm : ¬ M b) : AtL h' b off vs := by
  obtain ⟨h0, us, h1, h2, h3⟩ := H
  refine ⟨e.old h0, us, ?_, h2, h3⟩
  unfold Rd at h1 ⊢
  rw [e.get b h0 hm]
  exact h1

theorem old_lt {h : Heap} {i : Nat} (hi : i < h.next) : Old h (pa i) := by unfold Old; rw [unPa_pa]; exact hi
theorem new_ne {h : Heap} {b : Pa} {i : Nat} (hb : Old h b) (hi : h.next ≤ i) : (b = pa i) = False := by
  apply eq_false
  intro e
  unfold Old at hb
  rw [e, unPa_pa] at hb
  omega

def V.blk : V → Pa → Prop
  | .slice b _ _ _, b' => b' = b
  | .gslice b _ _ _, b' => b' = b
  | _, _ => False

theorem SlV.ia' {h : Heap} {size : Nat} {v : V} {n : Nat} {vs : List V} (H : SlV h size v n vs) {k : IntKind} {i : Nat} (hi : i < n) :
    ∃ b off, iaV size v (.int k i) = some (.ptr b (off + i * size)) ∧ AtL h b off vs ∧ v.blk b := by
  have H2 := H.2
  cases v <;> simp only at H2 <;> first
    | omega
    | (exact H2.elim)
    | skip
  · rename_i b off len cap
    obtain ⟨rfl, h1⟩ := H2
    refine ⟨b, off, ?_, h1, rfl⟩
    rw [ia_sl, if_pos (by omega)]
    simp
  · rename_i b off len cap
    obtain ⟨rfl, h1⟩ := H2
    refine ⟨b, off, ?_, h1, rfl⟩
    rw [ia_g, if_pos (by omega)]
    simp
theorem SlV.one {h : Heap} {size : Nat} {v : V} {n : Nat} {vs : List V} (H : SlV h size v n vs) : v.one = true ∧ v.cells = [v] ∧ v.good = true := by
  have q := H.2
  cases v <;> simp only at q <;> first | exact ⟨rfl, rfl, rfl⟩ | exact q.elim

theorem SlV.mod {M : Pa → Prop} {h h' : Heap} (e : Mod M h h') {size : Nat} {v : V} {n : Nat} {vs : List V} (H : SlV h size v n vs) (hm : ∀ b, v.blk b → ¬ M b) : SlV h' size v n vs := by
  refine ⟨H.1, ?_⟩
  have H2 := H.2
  cases v <;> simp only at H2 ⊢ <;> first | exact H2 | exact ⟨H2.1, e.at H2.2 (hm _ rfl)⟩

theorem SlV.old {h : Heap} {size : Nat} {v : V} {n : Nat} {vs : List V} (H : SlV h size v n vs) {b : Pa} (hb : v.blk b) : Old h b := by
  have H2 := H.2
  cases v <;> simp only [V.blk] at H2 hb <;> first | (exact hb.elim) | (subst hb; exact H2.2.1)

/-- a slice of one's own: it may be written, and appended to -/
def SlO (B : Nat) (h : Heap) (size : Nat) (v : V) (n : Nat) (vs : List V) : Prop :=
  vs.length = n * size ∧ match v with
    | .nilslice => n = 0
    | .slice b off len cap => len = n ∧ B ≤ unPa b ∧ Old h b ∧ n ≤ cap ∧ cap ≤ top ∧ ∃ us esz st, h.get b = .ofL us esz st ∧ off + cap * size ≤ us.length ∧ (us.drop off).take vs.length = vs
    | .gslice b off len idx => len = n ∧ B ≤ unPa b ∧ Old h b ∧ off = 0 ∧ idx = 0 ∧ ∃ us st, h.get b = .ofL us size st ∧ vs.length ≤ us.length ∧ us.take vs.length = vs
    | _ => False

theorem SlO.v {B : Nat} {h : Heap} {size : Nat} {v : V} {n : Nat} {vs : List V} (H : SlO B h size v n vs) : SlV h size v n vs := by
  obtain ⟨h1, h2⟩ := H
  refine ⟨h1, ?_⟩
  cases v <;> simp only at h2 ⊢ <;> first | exact h2 | skip
  · obtain ⟨q1, _, q2, q3, _, us, esz, st, q4, q5, q6⟩ := h2
    refine ⟨q1, q2, us, .inr ⟨esz, st, q4⟩, ?_, q6⟩
    rw [h1]
    have := Nat.mul_le_mul_right size q3
    omega
  · obtain ⟨q1, _, q2, q3, _, us, st, q4, q5, q6⟩ := h2
    subst q3
    exact ⟨q1, q2, us, .inr ⟨size, st, q4⟩, by omega, by simpa using q6⟩

theorem SlO.base {B : Nat} {h : Heap} {size : Nat} {v : V} {n : Nat} {vs : List V} (H : SlO B h size v n vs) {b : Pa} (hb : v.blk b) : B ≤ unPa b := by
  have H2 := H.2
  cases v <;> simp only [V.blk] at H2 hb <;> first | (exact hb.elim) | (subst hb; exact H2.2.1)

theorem SlO.mono {B B' : Nat} {h : Heap} {size : Nat} {v : V} {n : Nat} {vs : List V} (H : SlO B h size v n vs) (hB : B' ≤ B) : SlO B' h size v n vs := by
  refine ⟨H.1, ?_⟩
  have H2 := H.2
  cases v <;> simp only at H2 ⊢ <;> first | exact H2 | exact ⟨H2.1, Nat.le_trans hB H2.2.1, H2.2.2⟩

theorem SlO.mod {M : Pa → Prop} {h h' : Heap} (e : Mod M h h') {B size : Nat} {v : V} {n : Nat} {vs : List V} (H : SlO B h size v n vs) (hm : ∀ b, v.blk b → ¬ M b) : SlO B h' size v n vs := by
  refine ⟨H.1, ?_⟩
  have H2 := H.2
  cases v <;> simp only at H2 ⊢ <;> first | exact H2 | skip
  · obtain ⟨q1, q2, q3, q4, q5, us, esz, st, q6, q7⟩ := H2
    exact ⟨q1, q2, e.old q3, q4, q5, us, esz, st, by rw [e.get _ q3 (hm _ rfl)]; exact q6, q7⟩
  · obtain ⟨q1, q2, q3, q4, q5, us, st, q6, q7⟩ := H2
    exact ⟨q1, q2, e.old q3, q4, q5, us, st, by rw [e.get _ q3 (hm _ rfl)]; exact q6, q7⟩

theorem SlO.ext {h h' : Heap} (e : Ext h h') {B size : Nat} {v : V} {n : Nat} {vs : List V} (H : SlO B h size v n vs) : SlO B h' size v n vs :=
  H.mod (e.mod fun _ => False) fun _ _ q => q

theorem lenV_of {h : Heap} {size : Nat} {v : V} {n : Nat} {vs : List V} (H : SlV h size v n vs) : lenV v = some n := by
  have H2 := H.2
  cases v <;> simp only at H2 <;> first
    | (rw [← H2.1]; rfl)
    | (subst H2; rfl)
    | (exact H2.elim)

theorem srcAt_of {h : Heap} {b : Pa} {off size n : Nat} {vs : List V} (H : AtL h b off vs) (hl : vs.length = n * size) : srcAt h size b off n = some vs := by
  obtain ⟨_, us, h1, h2, h3⟩ := H
  unfold srcAt
  rw [h1.see, show Nat.ble (off + n * size) us.length = true from by rw [Nat.ble_eq]; omega, gets_eq us _ off (by omega), ← hl, h3]
  rfl

theorem src_of {h : Heap} {size : Nat} {v : V} {n : Nat} {vs : List V} (H : SlV h size v n vs) : srcCells h size v n = some vs := by
  obtain ⟨h1, h2⟩ := H
  cases v <;> simp only at h2 <;> first
    | (exact h2.elim)
    | (obtain ⟨_, h3⟩ := h2; exact srcAt_of h3 h1)
    | (subst h2
       have : vs = [] := List.eq_nil_of_length_eq_zero (by omega)
       subst this
       rfl)

/-- a new block that holds just these cells, with room behind them -/
theorem SlO.grown {B : Nat} {h : Heap} {size : Nat} {vs : List V} {n : Nat} {st : Bool} (hl : vs.length = n * size) (hB : B ≤ h.next) : SlO B (h.new (.ofL vs size st)) size (.gslice (pa h.next) 0 n 0) n vs :=
  ⟨hl, rfl, by rw [unPa_pa]; exact hB, old_self, rfl, rfl, vs, st, get_new_self _, Nat.le_refl _, List.take_length⟩

theorem appV_eq {h : Heap} {size : Nat} {s x : V} {m : Nat} {vs : List V} (H2 : SlV h size x m vs) (hm : m ≤ top) : appV size s x h = (match s with
      | .nilslice => appNil size m vs h
      | .slice b off len cap => appKnown size b off len cap m vs h
      | .gslice b off len idx => appGrown size b off len idx m vs h
      | _ => .fail) := by
  unfold appV
  rw [lenV_of H2]
  simp only
  rw [src_of H2]
  simp only
  rw [show Nat.ble m top = true from by rw [Nat.ble_eq]; exact hm]
  rfl

theorem splice_get (A : List V) (o : Nat) (W : List V) (h : o + W.length ≤ A.length) (q : Nat) : (splice A o W)[q]? = if q < o then A[q]? else if q < o + W.length then W[q - o]? else A[q]? := by
  have hl : (A.take o).length = o := by rw [List.length_take]; omega
  unfold splice
  rw [List.append_assoc]
  by_cases c1 : q < o
  · rw [if_pos c1, List.getElem?_append_left (by omega), List.getElem?_take_of_lt c1]
  · rw [if_neg c1, List.getElem?_append_right (by omega), hl]
    by_cases c2 : q < o + W.length
    · rw [if_pos c2, List.getElem?_append_left (by omega)]
    · rw [if_neg c2, List.getElem?_append_right (by omega), List.getElem?_drop]
      congr 1
      omega

theorem splice_inner (A : List V) (o j : Nat) (L W : List V) (hA : o + L.length ≤ A.length) (hL : (A.drop o).take L.length = L) (hj : j + W.length ≤ L.length) : ((splice A (o + j) W).drop o).take L.length = splice L j W := by
  apply List.ext_getElem?
  intro q
  have hl : ((A.drop o).take L.length)[q]? = L[q]? := by rw [hL]
  rw [splice_get L j W hj]
  by_cases hq : q < L.length
  · rw [List.getElem?_take_of_lt hq, List.getElem?_drop, splice_get A (o + j) W (by omega)]
    rw [List.getElem?_take_of_lt hq, List.getElem?_drop] at hl
    by_cases c1 : q < j
    · rw [if_pos (by omega), if_pos c1, hl]
    · rw [if_neg (by omega), if_neg c1]
      by_cases c2 : q < j + W.length
      · rw [if_pos (by omega), if_pos c2]
        congr 1
        omega
      · rw [if_neg (by omega), if_neg c2, hl]
  · rw [List.getElem?_take_eq_none (by omega), if_neg (by omega), if_neg (by omega), List.getElem?_eq_none (by omega)]

/-- APPEND -/
theorem app_own {B : Nat} {h : Heap} {size : Nat} {s x : V} {n m : Nat} {us vs : List V} (hsz : 1 ≤ size) (H1 : SlO B h size s n us) (H2 : SlV h size x m vs) (hB : B ≤ h.next) (hlen : (n + m) * size ≤ top) (ho : ones vs = true) :
    ∃ v h', appV size s x h = .val v h' ∧ SlO B h' size v (n + m) (us ++ vs) ∧ Mod s.blk h h' ∧ ∀ b, v.blk b → s.blk b ∨ h.next ≤ unPa b := by
  have hnm : n + m ≤ top := Nat.le_trans (Nat.le_mul_of_pos_right _ hsz) hlen
  have hl1 := H1.1
  have hl2 := H2.1
  have hll : (us ++ vs).length = (n + m) * size := by rw [List.length_append, hl1, hl2, Nat.add_mul]
  rw [appV_eq H2 (by omega)]
  have h2 := H1.2
  cases s <;> simp only at h2 ⊢ <;> try (exact h2.elim)
  case nilslice =>
    subst h2
    have : us = [] := List.eq_nil_of_length_eq_zero (by omega)
    subst this
    unfold appNil
    by_cases hm : m = 0
    · subst hm
      have : vs = [] := List.eq_nil_of_length_eq_zero (by omega)
      subst this
      exact ⟨.nilslice, h, rfl, ⟨by simp, rfl⟩, Mod.refl _ _, fun b hb => .inl hb⟩
    · rw [show Nat.beq m 0 = false from by rw [← Bool.not_eq_true, Nat.beq_eq]; exact hm]
      simp only [cond_false]
      rw [newGrow_eq (by rw [hl2]; simpa using hlen) hsz]
      refine ⟨_, _, rfl, ?_, (Mod.refl _ _).new _, fun b hb => .inr (by rw [show b = pa h.next from hb, unPa_pa]; exact Nat.le_refl _)⟩
      have := SlO.grown (B := B) (h := h) (size := size) (vs := vs) (n := m) (st := false) hl2 hB
      simpa using this
  case slice b off len cap =>
    obtain ⟨rfl, q2, q3, q4, q5, us0, esz, st, q6, q7, q8⟩ := h2
    unfold appKnown
    by_cases hc : len + m ≤ cap
    · rw [show Nat.ble (len + m) cap = true from by rw [Nat.ble_eq]; exact hc]
      simp only [cond_true]
      have hroom : off + len * size + vs.length ≤ us0.length := by
        have := Nat.mul_le_mul_right size hc
        rw [Nat.add_mul] at this
        rw [hl2]
        omega
      rw [Own.lay (vs := us0) (esz := esz) (st := st) q6 hroom ho]
      refine ⟨_, _, rfl, ⟨hll, rfl, q2, q3, hc, q5, _, esz, st, get_set _ _ _ |>.trans (if_pos rfl), ?_, ?_⟩, (Mod.refl (V.blk (.slice b off len cap)) h).set (fun _ => rfl) _, fun b' hb => .inl hb⟩
      · rw [splice_length _ _ _ hroom]; exact q7
      · rw [List.length_append]
        unfold splice
        have hlo : off + us.length ≤ us0.length := by rw [hl1]; omega
        have e1 : us0.take (off + len * size) = us0.take off ++ us := by
          rw [← hl1, List.take_add, q8]
        rw [e1, List.append_assoc, List.append_assoc, List.drop_append, List.drop_eq_nil_of_le (by rw [List.length_take]; omega), List.nil_append]
        rw [show off - (us0.take off).length = 0 from by rw [List.length_take]; omega, List.drop_zero]
        rw [← List.append_assoc, List.take_left' (by rw [List.length_append])]
    · rw [show Nat.ble (len + m) cap = false from by rw [← Bool.not_eq_true, Nat.ble_eq]; exact hc]
      simp only [cond_false]
      rw [show (Nat.ble (len + m) top && Nat.ble cap top) = true from by simp only [Bool.and_eq_true, Nat.ble_eq]; exact ⟨hnm, q5⟩]
      simp only [cond_true]
      have hat : AtL h b off us := ⟨q3, us0, .inr ⟨esz, st, q6⟩, by rw [hl1]; have := Nat.mul_le_mul_right size q4; omega, q8⟩
      rw [srcAt_of hat hl1]
      simp only
      rw [newGrow_eq (by rw [hll]; exact hlen) hsz]
      exact ⟨_, _, rfl, SlO.grown hll hB, (Mod.refl _ _).new _, fun b hb => .inr (by rw [show b = pa h.next from hb, unPa_pa]; exact Nat.le_refl _)⟩
  case gslice b off len idx =>
    obtain ⟨rfl, q2, q3, rfl, rfl, us0, st, q6, q7, q8⟩ := h2
    unfold appGrown
    by_cases hm : m = 0
    · subst hm
      have : vs = [] := List.eq_nil_of_length_eq_zero (by omega)
      subst this
      exact ⟨_, h, rfl, ⟨hll, rfl, q2, q3, rfl, rfl, us0, st, q6, by simpa using q7, by simpa using q8⟩, Mod.refl _ _, fun b hb => .inl hb⟩
    · rw [show Nat.beq m 0 = false from by rw [← Bool.not_eq_true, Nat.beq_eq]; exact hm]
      simp only [cond_false]
      rw [q6]
      simp only [Blk.ofL, Blk.on]
      rw [show (Nat.beq size size && (Nat.ble (len + m) top && ones vs) && Nat.beq 0 (0 * size)) = true from by
        simp only [Bool.and_eq_true, Nat.beq_eq, Nat.ble_eq]
        exact ⟨⟨trivial, hnm, ho⟩, by omega⟩]
      simp only [cond_true]
      have hat : AtL h b 0 us := ⟨q3, us0, .inr ⟨size, st, q6⟩, by omega, by simpa using q8⟩
      rw [srcAt_of hat hl1]
      simp only
      rw [newGrow_eq (by rw [hll]; exact hlen) hsz]
      exact ⟨_, _, rfl, SlO.grown (h := h.set b .dead) hll hB, ((Mod.refl (V.blk (.gslice b 0 len 0)) h).set (fun _ => rfl) _).new _, fun b' hb => .inr (by rw [show b' = pa h.next from hb, unPa_pa]; exact Nat.le_refl _)⟩

theorem ones_append {vs ws : List V} (h1 : ones vs = true) (h2 : ones ws = true) : ones (vs ++ ws) = true := by
  induction vs with
  | nil => exact h2
  | cons v vs ih =>
    simp only [ones, Bool.and_eq_true, List.cons_append] at h1 ⊢
    exact ⟨h1.1, ih h1.2⟩

/-- an element of a slice of one's own is laid anew -/
theorem SlO.put {B : Nat} {h : Heap} {size : Nat} {v : V} {n : Nat} {vs : List V} (H : SlO B h size v n vs) {i : Nat} (hi : i < n) {k : IntKind} {y : V} (hy : y.cells.length = size) (ho : ones y.cells = true) :
    ∃ b off h', iaV size v (.int k i) = some (.ptr b (off + i * size)) ∧ v.blk b ∧ storeV size h (.ptr b (off + i * size)) y = some h' ∧ SlO B h' size v n (splice vs (i * size) y.cells) ∧ Mod v.blk h h' := by
  obtain ⟨h1, h2⟩ := H
  have hlt : i * size + size ≤ n * size := by
    have := Nat.mul_le_mul_right size (show i + 1 ≤ n from hi)
    rw [Nat.add_mul] at this
    omega
  cases v <;> simp only at h2 <;> try (first | omega | exact h2.elim)
  case slice b off len cap =>
    obtain ⟨rfl, q2, q3, q4, q5, us0, esz, st, q6, q7, q8⟩ := h2
    have hc := Nat.mul_le_mul_right size q4
    have hroom : off + i * size + y.cells.length ≤ us0.length := by rw [hy]; omega
    refine ⟨b, off, _, ?_, rfl, Own.store (vs := us0) (esz := esz) (st := st) q6 hy (by rw [hy] at hroom; exact hroom) ho, ⟨?_, rfl, q2, q3, q4, q5, _, esz, st, get_set _ _ _ |>.trans (if_pos rfl), ?_, ?_⟩, (Mod.refl (V.blk (.slice b off len cap)) h).set (fun _ => rfl) _⟩
    · rw [ia_sl, if_pos (by omega)]; simp
    · rw [splice_length _ _ _ (by rw [hy, h1]; omega)]; exact h1
    · rw [splice_length _ _ _ hroom]; exact q7
    · rw [splice_length _ _ _ (by rw [hy, h1]; omega)]
      exact splice_inner us0 off (i * size) vs y.cells (by rw [h1]; omega) q8 (by rw [hy, h1]; omega)
  case gslice b off len idx =>
    obtain ⟨rfl, q2, q3, rfl, rfl, us0, st, q6, q7, q8⟩ := h2
    have hroom : i * size + y.cells.length ≤ vs.length := by rw [hy, h1]; omega
    have hroom0 : 0 + i * size + y.cells.length ≤ us0.length := by omega
    refine ⟨b, 0, _, ?_, rfl, Own.store (vs := us0) (esz := size) (st := st) q6 hy (by rw [hy] at hroom0; exact hroom0) ho, ⟨?_, rfl, q2, q3, rfl, rfl, _, st, get_set _ _ _ |>.trans (if_pos rfl), ?_, ?_⟩, (Mod.refl (V.blk (.gslice b 0 len 0)) h).set (fun _ => rfl) _⟩
    · rw [ia_g, if_pos (by omega)]; simp
    · rw [splice_length _ _ _ hroom]; exact h1
    · rw [splice_length _ _ _ hroom, splice_length _ _ _ hroom0]; exact q7
    · rw [splice_length _ _ _ hroom]
      have := splice_inner us0 0 (i * size) vs y.cells (by omega) (by simpa using q8) hroom
      simpa using this

/-- where a slice lies -/
def V.at (v : V) (b : Pa) (off : Nat) : Prop :=
  match v with
  | .slice b' o _ _ => b = b' ∧ off = o
  | .gslice b' o _ _ => b = b' ∧ off = o
  | _ => False

theorem at_ia {h : Heap} {size : Nat} {v : V} {n : Nat} {vs : List V} (H : SlV h size v n vs) {k : IntKind} {i : Nat} (hi : i < n) {b : Pa} {off : Nat} (e : iaV size v (.int k i) = some (.ptr b (off + i * size))) : v.at b off := by
  have H2 := H.2
  cases v <;> simp only at H2 <;> first | omega | (exact H2.elim) | skip
  · obtain ⟨rfl, _⟩ := H2
    rw [ia_sl, if_pos (by omega)] at e
    simp only [Option.some.injEq, V.ptr.injEq, Int.toNat_natCast] at e
    exact ⟨e.1.symm, by omega⟩
  · obtain ⟨rfl, _⟩ := H2
    rw [ia_g, if_pos (by omega)] at e
    simp only [Option.some.injEq, V.ptr.injEq, Int.toNat_natCast] at e
    exact ⟨e.1.symm, by omega⟩

theorem splice_one (vs : List V) (c : Nat) (y : V) (h : c < vs.length) : splice vs c [y] = vs.set c y := by
  unfold splice
  rw [List.set_eq_take_append_cons_drop, if_pos h]
  simp

/-- one cell of a slice of one's own is laid anew -/
theorem SlO.putc {B : Nat} {h : Heap} {size : Nat} {v : V} {n : Nat} {vs : List V} (H : SlO B h size v n vs) {b : Pa} {off : Nat} (ha : v.at b off) {c : Nat} (hc : c < vs.length) {y : V} (hy : y.cells = [y]) (ho : y.one = true) :
    ∃ k, layB 1 h b (off + c) y (h.get b) = some (h.set b k) ∧ (∀ H' : Heap, H'.get b = h.get b → layB 1 H' b (off + c) y (h.get b) = some (H'.set b k)) ∧ SlO B (h.set b k) size v n (vs.set c y) ∧ v.blk b := by
  obtain ⟨h1, h2⟩ := H
  have ho' : ones y.cells = true := by rw [hy]; simp [ones, ho]
  cases v <;> simp only at h2 <;> simp only [V.at] at ha <;> try (exact ha.elim)
  case slice b' o len cap =>
    obtain ⟨rfl, rfl⟩ := ha
    obtain ⟨rfl, q2, q3, q4, q5, us0, esz, st, q6, q7, q8⟩ := h2
    have hcc := Nat.mul_le_mul_right size q4
    have hroom : off + c + y.cells.length ≤ us0.length := by rw [hy]; simp; omega
    have e : ∀ H' : Heap, H'.get b = h.get b → layB 1 H' b (off + c) y (h.get b) = some (H'.set b (.ofL (spl us0 (off + c) y.cells) esz st)) := by
      intro H' _
      rw [q6]
      exact lay_ofL (by rw [hy]; rfl) ho' (by rw [hy] at hroom; simpa using hroom)
    refine ⟨_, e h rfl, e, ⟨by simpa using h1, rfl, q2, q3, q4, q5, _, esz, st, get_set _ _ _ |>.trans (if_pos rfl), ?_, ?_⟩, rfl⟩
    · rw [spl_length _ _ _ hroom]; exact q7
    · rw [spl_eq _ _ _ hroom, List.length_set]
      have := splice_inner us0 off c vs y.cells (by rw [h1]; omega) q8 (by rw [hy]; simp; omega)
      rw [this, hy, splice_one vs c y hc]
  case gslice b' o len idx =>
    obtain ⟨rfl, rfl⟩ := ha
    obtain ⟨rfl, q2, q3, rfl, rfl, us0, st, q6, q7, q8⟩ := h2
    have hroom : 0 + c + y.cells.length ≤ us0.length := by rw [hy]; simp; omega
    have e : ∀ H' : Heap, H'.get b = h.get b → layB 1 H' b (0 + c) y (h.get b) = some (H'.set b (.ofL (spl us0 (0 + c) y.cells) size st)) := by
      intro H' _
      rw [q6]
      exact lay_ofL (by rw [hy]; rfl) ho' (by rw [hy] at hroom; simpa using hroom)
    refine ⟨_, e h rfl, e, ⟨by simpa using h1, rfl, q2, q3, rfl, rfl, _, st, get_set _ _ _ |>.trans (if_pos rfl), ?_, ?_⟩, rfl⟩
    · rw [spl_length _ _ _ hroom, List.length_set]; exact q7
    · rw [spl_eq _ _ _ hroom, List.length_set]
      have := splice_inner us0 0 c vs y.cells (by omega) (by simpa using q8) (by rw [hy]; simp; omega)
      rw [List.drop_zero] at this
      rw [this, hy, splice_one vs c y hc]

theorem opt_no (r : RF) : RX.opt r none = none := (rfl)
theorem opt_so (r : RF) (x : RX) : RX.opt r (some x) = some (x.ev r) := (rfl)

theorem bound_some {k : IntKind} {m d y : Nat} (h : m ≤ y) : bound (some (.int k (m : Int))) d y = some m := by
  simp only [bound, V.onInt, leB_dec]
  rw [show (decide ((0 : Int) ≤ (m : Int)) && decide ((m : Int) ≤ (y : Int))) = true from by simp; omega]
  simp
theorem bound_none (d y : Nat) : bound none d y = some d := rfl

/-- a slice of a slice -/
theorem SlV.cut {h : Heap} {size : Nat} {v : V} {n : Nat} {vs : List V} (H : SlV h size v n vs) {k k' : IntKind} {lo hi : Nat} (h1 : lo ≤ hi) (h2 : hi ≤ n) (lov hiv : Option V)
    (hlo : lov = some (.int k lo) ∨ lov = none ∧ lo = 0) (hhi : hiv = some (.int k' hi) ∨ hiv = none ∧ hi = n) (hcap : ∀ b off l c, v = .slice b off l c → l ≤ c) :
    ∃ v', sliceV size v lov hiv none = some v' ∧ SlV h size v' (hi - lo) ((vs.drop (lo * size)).take ((hi - lo) * size)) ∧ ∀ b, v'.blk b → v.blk b := by
  obtain ⟨q1, q2⟩ := H
  have hll : ((vs.drop (lo * size)).take ((hi - lo) * size)).length = (hi - lo) * size := by
    rw [List.length_take, List.length_drop, q1]
    have e1 := Nat.mul_le_mul_right size h1
    have e2 := Nat.mul_le_mul_right size h2
    rw [Nat.sub_mul]
    omega
  have bl : ∀ y, lo ≤ y → bound lov 0 y = some lo := by
    intro y hy
    rcases hlo with rfl | ⟨rfl, rfl⟩
    · exact bound_some hy
    · rfl
  have bh : ∀ d y, n = d → n ≤ y → bound hiv d y = some hi := by
    intro d y hd hy
    rcases hhi with rfl | ⟨rfl, rfl⟩
    · exact bound_some (by omega)
    · rw [bound_none, hd]
  have piece : ∀ (b : Pa) (off : Nat), AtL h b off vs → AtL h b (off + lo * size) ((vs.drop (lo * size)).take ((hi - lo) * size)) := by
    rintro b off ⟨a1, us, a2, a3, a4⟩
    have e1 := Nat.mul_le_mul_right size h1
    have e2 := Nat.mul_le_mul_right size h2
    refine ⟨a1, us, a2, ?_, ?_⟩
    · rw [hll, Nat.sub_mul]; omega
    · rw [hll, ← List.drop_drop]
      have : (us.drop off).drop (lo * size) = (((us.drop off).take vs.length).drop (lo * size)) ++ (us.drop off).drop vs.length := by
        rw [← List.drop_append_of_le_length (by rw [List.length_take, List.length_drop]; omega), List.take_append_drop]
      rw [this, a4, List.take_append_of_le_length (by rw [List.length_drop, q1, Nat.sub_mul]; omega)]
  cases v <;> simp only at q2 <;> try (exact q2.elim)
  case nilslice =>
    subst q2
    obtain rfl : hi = 0 := by omega
    obtain rfl : lo = 0 := by omega
    refine ⟨.nilslice, ?_, ⟨hll, rfl⟩, fun b hb => hb⟩
    simp only [sliceV, sliceNil, bh 0 0 rfl (Nat.le_refl _), bl 0 (Nat.le_refl _)]
  case slice b off len cap =>
    obtain ⟨rfl, q3⟩ := q2
    have hc := hcap b off len cap rfl
    have e : sliceV size (.slice b off len cap) lov hiv none = some (.slice b (bif Nat.beq cap lo then off else off + lo * size) (hi - lo) (cap - lo)) := by
      simp only [sliceV, sliceKnown, bh len cap rfl hc, bl hi h1]
    rw [e]
    refine ⟨_, rfl, ⟨hll, rfl, ?_⟩, fun b' hb => hb⟩
    cases hb : Nat.beq cap lo with
    | false => exact piece b off q3
    | true =>
      rw [Nat.beq_eq] at hb
      obtain rfl : hi = lo := by omega
      obtain ⟨a1, us, a2, a3, a4⟩ := q3
      refine ⟨a1, us, a2, ?_, ?_⟩ <;> simp
      omega
  case gslice b off len idx =>
    obtain ⟨rfl, q3⟩ := q2
    by_cases hlt : lo < len
    · have e : sliceV size (.gslice b off len idx) lov hiv none = some (.gslice b (off + lo * size) (hi - lo) (idx + lo)) := by
        simp only [sliceV, sliceGrown, bh len len rfl (Nat.le_refl _), bl hi h1]
        rw [show Nat.blt lo len = true from by rw [Nat.blt_eq]; exact hlt]
        rfl
      rw [e]
      exact ⟨_, rfl, ⟨hll, rfl, piece b off q3⟩, fun b' hb => hb⟩
    · have e : sliceV size (.gslice b off len idx) lov hiv none = some (.tslice b off (off + lo * size) (idx + lo)) := by
        simp only [sliceV, sliceGrown, bh len len rfl (Nat.le_refl _), bl hi h1]
        rw [show Nat.blt lo len = false from by rw [← Bool.not_eq_true, Nat.blt_eq]; exact hlt]
        rfl
      rw [e]
      exact ⟨_, rfl, ⟨hll, by omega⟩, fun b' hb => hb.elim⟩
  case tslice b off off' idx =>
    subst q2
    obtain rfl : hi = 0 := by omega
    obtain rfl : lo = 0 := by omega
    refine ⟨.tslice b off off' idx, ?_, ⟨hll, rfl⟩, fun b hb => hb⟩
    simp only [sliceV, sliceTail, bh 0 0 rfl (Nat.le_refl _), bl 0 (Nat.le_refl _)]

/-- the beginning of a slice of one's own -/
theorem SlO.cut {B : Nat} {h : Heap} {size : Nat} {v : V} {n : Nat} {vs : List V} (H : SlO B h size v n vs) {k : IntKind} {m : Nat} (hm : m ≤ n) (hn : 1 ≤ n) :
    ∃ v', sliceV size v none (some (.int k m)) none = some v' ∧ SlO B h size v' m (vs.take (m * size)) ∧ ∀ b, v'.blk b → v.blk b := by
  obtain ⟨q1, q2⟩ := H
  have hmm := Nat.mul_le_mul_right size hm
  have hll : (vs.take (m * size)).length = m * size := by rw [List.length_take]; omega
  cases v <;> simp only at q2 <;> try (first | omega | exact q2.elim)
  case slice b off len cap =>
    obtain ⟨rfl, q3, q4, q5, q6, us, esz, st, q7, q8, q9⟩ := q2
    have e : sliceV size (.slice b off len cap) none (some (.int k m)) none = some (.slice b off m cap) := by
      simp only [sliceV, sliceKnown, bound_some (show m ≤ cap by omega), bound_none]
      cases Nat.beq cap 0 <;> simp
    rw [e]
    refine ⟨_, rfl, ⟨hll, rfl, q3, q4, by omega, q6, us, esz, st, q7, q8, ?_⟩, fun b' hb => hb⟩
    rw [hll, ← q9, List.take_take]
    congr 1
    omega
  case gslice b off len idx =>
    obtain ⟨rfl, q3, q4, rfl, rfl, us, st, q7, q8, q9⟩ := q2
    have e : sliceV size (.gslice b 0 len 0) none (some (.int k m)) none = some (.gslice b 0 m 0) := by
      simp only [sliceV, sliceGrown, bound_some hm, bound_none]
      rw [show Nat.blt 0 len = true from by rw [Nat.blt_eq]; omega]
      simp
    rw [e]
    refine ⟨_, rfl, ⟨hll, rfl, q3, q4, rfl, rfl, us, st, q7, by omega, ?_⟩, fun b' hb => hb⟩
    rw [hll, ← q9, List.take_take]
    congr 1
    omega

theorem nil_ptr (b : Pa) (o : Nat) : nilCheckV (.ptr b o) = some (.ptr b o) := rfl
theorem mn_two (k k' : IntKind) (a b : Int) : pickV (fun b a => !Int.leB a b) [.int k a, .int k' b] = some (.int k (if b < a then b else a)) := by
  simp only [pickV, pickFrom, V.onInt, leB_dec]
  by_cases h : b < a
  · rw [if_pos h]
    have : ¬ a ≤ b := by omega
    simp [this]
  · rw [if_neg h]
    have : a ≤ b := by omega
    simp [this]
theorem mx_two (k k' : IntKind) (a b : Int) : pickV (fun b a => !Int.leB b a) [.int k a, .int k' b] = some (.int k (if a < b then b else a)) := by
  simp only [pickV, pickFrom, V.onInt, leB_dec]
  by_cases h : a < b
  · rw [if_pos h]
    have : ¬ b ≤ a := by omega
    simp [this]
  · rw [if_neg h]
    have : b ≤ a := by omega
    simp [this]

/-- the cells of an element, of a slice of one's own: loads at its address -/
theorem AtL.cell {h : Heap} {b : Pa} {off : Nat} {vs : List V} (H : AtL h b off vs) {i j n : Nat} {ws : List V} (hw : (vs.drop i).take n = ws) (hi : i + n ≤ vs.length) (hj : j < n) : ld1B (h.get b) (off + i + j) = ws[j]? := by
  rw [Nat.add_assoc, H.ld1 (by omega), ← hw, List.getElem?_take_of_lt hj, List.getElem?_drop, List.getElem?_eq_getElem]
end Go.Proofs.YthcgccnbhdociaaDoor.Am

namespace Go.Proofs.YthcgccnbhdociaaDoor.Am
variable [Lay]
set_option linter.unusedSectionVars false
open Go Go.RowKit

/-! Arguments: what a call is handed, laid into the machine as views. -/

/-- what is below the end of memory stays: all that the machine knows stays true -/
theorem Sim.below {w0 : Fr} {E : Env} {h : Heap} {w w' : World} (s : Sim w0 E h w) (hb : Below w.heap.size w w') : Sim w0 E h w' := by
  have hsz : w0.w.heap.size ≤ w.heap.size := s.frame.size
  have keep : ∀ (k : Nat) (o : Obj), w.heap[k]? = some o → w'.heap[k]? = some o := by
    intro k o hk
    rw [hb.block k, hk]
    by_cases hlt : k < w.heap.size
    · exact hlt
    · rw [Array.getElem?_eq_none (by omega)] at hk
      cases hk
  refine ⟨fun b hp => ?_, s.pen, s.inj, s.fresh, s.frame.trans (hb.mono hsz), s.laid⟩
  have := s.blk b hp
  cases hk : h.get b <;> rw [hk] at this <;> simp only [BlkRel] at this ⊢
  · obtain ⟨q1, p, c, el, fz, q2, q3, q4, q5⟩ := this
    exact ⟨q1, p, c, el, fz, q2, q3, keep _ _ q4, q5⟩
  · obtain ⟨q1, p, c, el, fz, q2, q3, q4, q5⟩ := this
    exact ⟨q1, p, c, el, fz, q2, q3, keep _ _ q4, q5⟩
  · obtain ⟨p, q1, q2, q3, q4⟩ := this
    exact ⟨p, q1, q2, q3, keep _ _ q4⟩
  · obtain ⟨p, a, q1, q2, q3, q4⟩ := this
    exact ⟨p, a, q1, q2, keep _ _ q3, q4⟩

/-- a closed call, whatever the memory -/
theorem closed_callsV {P : Program} {f : FuncId} {v : V} (hv : ∀ E x, x = .bool true → Rel E v x) (hfn : ∃ fn, P.funcs[f]? = some fn ∧ fn.body.isSome = true) (H : ∀ w, Lay.ok w → Calls P f #[] w fun e w' => e = .returned (.bool true) ∧ Below w.heap.size w w') (h : Heap) :
    CallsV P f [] h v h := by
  refine .inl ⟨hfn, fun w0 E w xs hx s => ?_⟩
  simp only [RelL] at hx
  subst hx
  refine (H w (Lay.keep s.laid s.frame)).mono fun e w' q => ?_
  obtain ⟨rfl, hb⟩ := q
  exact ⟨E, _, rfl, fun _ _ q => q, hv E _ rfl, s.below hb⟩

/-- a view of what the memory holds, laid into the machine -/
noncomputable def viewE (E : Env) (h : Heap) (p : Pl) : Env := fun b => if b = pa h.next then some p else E b
theorem viewE_self (E : Env) (h : Heap) (p : Pl) : viewE E h p (pa h.next) = some p := if_pos rfl
theorem viewE_le {w0 : Fr} {E : Env} {h : Heap} {w : World} (s : Sim w0 E h w) (p : Pl) : E.le (viewE E h p) := fun b q hq => by
  unfold viewE
  rw [if_neg (fun e => by rw [e, s.fresh _ (Nat.le_refl _)] at hq; cases hq)]
  exact hq

theorem sim_new {W : World} {E : Env} {h : Heap} (s : Sim ⟨W, fun _ => none⟩ E h W) (p : Pl) (k : Blk) (ho : k.own = false) (hk : BlkRel W.heap.size (viewE E h p) W (pa h.next) k) :
    Sim ⟨W, fun _ => none⟩ (viewE E h p) (h.new k) W := by
  refine ⟨fun b _ => ?_, fun _ _ h => (by cases h), fun b b' q q' h1 h2 e1 e2 hq => ?_, fun i hi => ?_, s.frame, s.laid⟩
  · rw [get_new]
    by_cases e : pa h.next = b
    · subst e
      rw [if_pos rfl]
      exact hk
    · rw [if_neg e]
      exact (s.blk b rfl).mono (viewE_le s p)
  · rw [get_new] at h1 h2
    by_cases c1 : pa h.next = b
    · rw [if_pos c1, ho] at h1; cases h1
    · by_cases c2 : pa h.next = b'
      · rw [if_pos c2, ho] at h2; cases h2
      · rw [if_neg c1] at h1
        rw [if_neg c2] at h2
        unfold viewE at e1 e2
        rw [if_neg (fun e => c1 e.symm)] at e1
        rw [if_neg (fun e => c2 e.symm)] at e2
        exact s.inj b b' q q' h1 h2 e1 e2 hq
  · rw [next_new] at hi
    unfold viewE
    rw [if_neg (fun e => by have := pa_inj e; omega)]
    exact s.fresh i (by omega)

theorem sim_view {W : World} {E : Env} {h : Heap} (s : Sim ⟨W, fun _ => none⟩ E h W) {k base cap : Nat} {c : Array Value} {el : TypeId} {fz : Nat × Nat} (hk : W.heap[k]? = some (.cells c el fz)) {vs : List V}
    (hn : vs.length ≤ top) (hc : base + vs.length ≤ c.size) (hr : ∀ i v y, vs[i]? = some v → c[base + i]? = some y → Rel E v y) :
    Sim ⟨W, fun _ => none⟩ (viewE E h ⟨k, base, cap⟩) (h.new (.ro vs)) W := by
  refine sim_new s _ _ rfl ?_
  have hlt : k < W.heap.size := by
    by_cases hlt : k < W.heap.size
    · exact hlt
    · rw [Array.getElem?_eq_none (by omega)] at hk
      cases hk
  refine ⟨hn, ⟨k, base, cap⟩, c, el, fz, viewE_self _ _ _, hlt, hk, hc, fun i y hi hy => ?_⟩
  have : T.get .bad (pa i) (puts .e 0 vs) = vs[i] := by
    have := get_puts vs 0 i .e
    rw [Nat.zero_add] at this
    rw [this, if_pos hi, List.getElem?_eq_getElem hi]
    rfl
  rw [this]
  exact Rel.mono (viewE_le s _) _ _ (hr i _ y (List.getElem?_eq_getElem hi) hy)
end Go.Proofs.YthcgccnbhdociaaDoor.Am

namespace Go.Proofs.YthcgccnbhdociaaDoor.Am
variable [Lay]
set_option linter.unusedSectionVars false
set_option linter.unusedVariables false
open Go Go.RowKit

/-! What is handed in, by its type. -/
section
variable (P : Program)

/-- a struct's fields lie one behind the other -/
def tiles : List Field → Nat → Option Nat
  | [], o => some o
  | f :: fs, o => if f.offset = o then tiles fs (o + P.cellsOf f.type) else none
def tilesB : Bool := (List.range P.types.size).all fun t => match P.underlying t with
  | some (.struct fs) => decide (tiles P fs.toList 0 = some (P.cellsOf t))
  | _ => true

/-- cells of a type, as the machine holds what was handed in -/
def Shp (h : Heap) : Nat → TypeId → List V → Prop
  | 0, _, _ => False
  | n + 1, t, vs => match P.underlying t with
    | some .bool => ∃ b, vs = [.bool b]
    | some (.int k) => ∃ i, vs = [.int k i] ∧ (Lit.int k i).wf = true
    | some .string => ∃ s : List UInt8, vs = [.str s] ∧ s.length ≤ maxLen
    | some (.slice e) => vs = [.nilslice] ∨ (∃ b i j k, vs = [.tslice b i j k]) ∨ P.cellsOf e = 0 ∨
        ∃ b len cap, vs = [.slice b 0 len cap] ∧ 0 < len ∧ len ≤ cap ∧ cap ≤ maxLen ∧ Old h b ∧ (len * P.cellsOf e ≤ top → ∃ us, Rd h b us ∧ us.length = len * P.cellsOf e ∧ ∀ i, i < len → Shp h n e ((us.drop (i * P.cellsOf e)).take (P.cellsOf e)))
    | some (.struct fs) => vs.length = P.cellsOf t ∧ ∀ f ∈ fs.toList, Shp h n f.type ((vs.drop f.offset).take (P.cellsOf f.type))
    | some (.pointer e) => vs = [.nilptr] ∨ P.cellsOf e = 0 ∨ ∃ b, vs = [.ptr b 0] ∧ Old h b ∧ (P.cellsOf e ≤ top → ∃ us, Rd h b us ∧ us.length = P.cellsOf e ∧ Shp h n e us)
    | some (.map _ _) => vs = [.nilmap] ∨ vs = [.bad]
    | some (.interface _) => vs = [.nilIface] ∨ vs = [.bad]
    | _ => True
end

theorem Shp.ext {P : Program} {h h' : Heap} (e : Ext h h') : ∀ (n : Nat) (t : TypeId) (vs : List V), Shp P h n t vs → Shp P h' n t vs
  | 0, _, _, H => H
  | n + 1, t, vs, H => by
    unfold Shp at H ⊢
    split at H <;> try exact H
    · rcases H with H | H | H | ⟨b, len, cap, h1, h2, h3, h4, h5, h6⟩
      · exact .inl H
      · exact .inr (.inl H)
      · exact .inr (.inr (.inl H))
      · refine .inr (.inr (.inr ⟨b, len, cap, h1, h2, h3, h4, e.old h5, fun q => ?_⟩))
        obtain ⟨us, k1, k2, k3⟩ := h6 q
        exact ⟨us, e.rd h5 k1, k2, fun i hi => Shp.ext e n _ _ (k3 i hi)⟩
    · exact ⟨H.1, fun f hf => Shp.ext e n _ _ (H.2 f hf)⟩
    · rcases H with H | H | ⟨b, h1, h5, h6⟩
      · exact .inl H
      · exact .inr (.inl H)
      · refine .inr (.inr ⟨b, h1, e.old h5, fun q => ?_⟩)
        obtain ⟨us, k1, k2, k3⟩ := h6 q
        exact ⟨us, e.rd h5 k1, k2, Shp.ext e n _ _ k3⟩

theorem cells_get {w : World} {base : Nat} {a : Addr} {n : Nat} {l : List Value} (h : w.cells? base a n = some l) : l.length = n ∧ ∀ i, i < n → w.cell? (a.add i) = l[i]? := by
  unfold World.cells? at h
  split at h
  · exact ⟨by simpa using mapM_some_length h, fun i hi => mapM_some_get h i i (by simp [hi])⟩
  · cases h

theorem relL_mono {E E' : Env} (he : E.le E') {vs : List V} {l : List Value} (H : RelL E vs l) : RelL E' vs l := RelL.mono he vs l H

section
variable {H : Type} {enc : TypeId × Value → H} {P : Program} {W : World} {base : Nat} {sp : Nat → Bool} {held : Bool}

/-- what the reading of cells brings -/
def Lays (P : Program) (W : World) (n : Nat) (t : TypeId) (cs : List Value) : Prop :=
  ∀ (E : Env) (h : Heap), Sim ⟨W, fun _ => none⟩ E h W → ∃ E' h' vs, E.le E' ∧ Ext h h' ∧ Sim ⟨W, fun _ => none⟩ E' h' W ∧ RelL E' vs cs ∧ vs.length = cs.length ∧ Shp P h' n t vs

/-- pieces, one behind the other -/
theorem lays_pieces (n size : Nat) (e : TypeId) : ∀ (pieces : List (List Value)), (∀ l ∈ pieces, l.length = size ∧ Lays P W n e l) →
    ∀ (E : Env) (h : Heap), Sim ⟨W, fun _ => none⟩ E h W → ∃ E' h' us, E.le E' ∧ Ext h h' ∧ Sim ⟨W, fun _ => none⟩ E' h' W ∧ RelL E' us pieces.flatten ∧ us.length = pieces.length * size ∧
      ∀ i, i < pieces.length → Shp P h' n e ((us.drop (i * size)).take size)
  | [], _, E, h, s => ⟨E, h, [], fun _ _ q => q, Ext.refl h, s, rfl, by simp, fun i hi => by simp at hi⟩
  | l :: ls, hp, E, h, s => by
    obtain ⟨hl, H⟩ := hp l (by simp)
    obtain ⟨E1, h1, vs, a1, a2, a3, a4, a5, a6⟩ := H E h s
    obtain ⟨E2, h2, us, b1, b2, b3, b4, b5, b6⟩ := lays_pieces n size e ls (fun l hl => hp l (by simp [hl])) E1 h1 a3
    refine ⟨E2, h2, vs ++ us, a1.trans b1, a2.trans b2, b3, ?_, ?_, ?_⟩
    · rw [List.flatten_cons]
      exact RelL.append (relL_mono b1 a4) b4
    · rw [List.length_append, b5, a5, hl, List.length_cons, Nat.add_mul]
      omega
    · intro i hi
      cases i with
      | zero =>
        rw [Nat.zero_mul, List.drop_zero, List.take_left' (by rw [a5, hl])]
        exact Shp.ext b2 _ _ _ a6
      | succ i =>
        rw [Nat.add_mul, Nat.one_mul, Nat.add_comm, ← List.drop_drop, List.drop_left' (by rw [a5, hl])]
        exact b6 i (by simpa using hi)

/-- the fields of a struct -/
theorem lays_fields (n : Nat) : ∀ (fs : List Field) (o o' : Nat) (cs : List Value), tiles P fs o = some o' → cs.length = o' → (∀ f ∈ fs, Lays P W n f.type ((cs.drop f.offset).take (P.cellsOf f.type))) →
    o ≤ o' ∧ ∀ (E : Env) (h : Heap), Sim ⟨W, fun _ => none⟩ E h W → ∃ E' h' vs, E.le E' ∧ Ext h h' ∧ Sim ⟨W, fun _ => none⟩ E' h' W ∧ RelL E' vs (cs.drop o) ∧ vs.length = o' - o ∧
      ∀ f ∈ fs, o ≤ f.offset ∧ Shp P h' n f.type ((vs.drop (f.offset - o)).take (P.cellsOf f.type))
  | [], o, o', cs, ht, hl, _ => by
    simp only [tiles, Option.some.injEq] at ht
    subst ht
    refine ⟨Nat.le_refl _, fun E h s => ⟨E, h, [], fun _ _ q => q, Ext.refl h, s, ?_, by simp, fun f hf => by simp at hf⟩⟩
    rw [List.drop_eq_nil_of_le (by omega)]
    rfl
  | f :: fs, o, o', cs, ht, hl, hp => by
    simp only [tiles] at ht
    by_cases hf : f.offset = o
    · rw [if_pos hf] at ht
      obtain ⟨g1, g2⟩ := lays_fields n fs (o + P.cellsOf f.type) o' cs ht hl (fun f hf => hp f (by simp [hf]))
      refine ⟨by omega, fun E h s => ?_⟩
      have hpf := hp f (by simp)
      obtain ⟨E1, h1, vs, a1, a2, a3, a4, a5, a6⟩ := hpf E h s
      obtain ⟨E2, h2, us, b1, b2, b3, b4, b5, b6⟩ := g2 E1 h1 a3
      have hvl : vs.length = P.cellsOf f.type := by rw [a5, List.length_take, List.length_drop, hf]; omega
      refine ⟨E2, h2, vs ++ us, a1.trans b1, a2.trans b2, b3, ?_, ?_, ?_⟩
      · have e : cs.drop o = (cs.drop f.offset).take (P.cellsOf f.type) ++ cs.drop (o + P.cellsOf f.type) := by
          rw [hf, ← List.drop_drop, List.take_append_drop]
        rw [e]
        exact RelL.append (relL_mono b1 a4) b4
      · rw [List.length_append, hvl, b5]
        omega
      · intro g hg
        rcases List.mem_cons.1 hg with rfl | hg
        · refine ⟨by omega, ?_⟩
          rw [hf, Nat.sub_self, List.drop_zero, List.take_left' hvl]
          exact Shp.ext b2 _ _ _ a6
        · obtain ⟨c1, c2⟩ := b6 g hg
          refine ⟨by omega, ?_⟩
          rw [show g.offset - o = P.cellsOf f.type + (g.offset - (o + P.cellsOf f.type)) from by omega, ← List.drop_drop, List.drop_left' hvl]
          exact c2
    · rw [if_neg hf] at ht
      cases ht

theorem cell_some {w : World} {a : Addr} {y : Value} (h : w.cell? a = some y) : a.spot = none ∧ ∃ c el fz, w.heap[a.block]? = some (.cells c el fz) ∧ c[a.off]? = some y := by
  refine ⟨World.cell?_spot h, ?_⟩
  unfold World.cell? at h
  split at h
  · rename_i c el fz hh
    split at h
    · cases h
    · exact ⟨c, el, fz, hh, h⟩
  · cases h

theorem add_block (a : Addr) (n : Nat) : (a.add n).block = a.block := by unfold Addr.add; split <;> rfl
theorem add_off (a : Addr) (n : Nat) : (a.add n).off = a.off + n := by unfold Addr.add; split <;> simp_all

/-- a row of cells, from the first on -/
theorem row_cells {w : World} {a : Addr} {l : List Value} (h0 : 0 < l.length) (h : ∀ i, i < l.length → w.cell? (a.add i) = l[i]?) :
    a.spot = none ∧ ∃ c el fz, w.heap[a.block]? = some (.cells c el fz) ∧ a.off + l.length ≤ c.size ∧ ∀ i, i < l.length → c[a.off + i]? = l[i]? := by
  have hc0 : w.cell? (a.add 0) = some l[0] := by rw [h 0 h0]; exact List.getElem?_eq_getElem h0
  obtain ⟨s1, c, el, fz, s2, s3⟩ := cell_some hc0
  have e0 : a.add 0 = a := by unfold Addr.add; simp
  rw [e0] at s1 s2 s3
  have key : ∀ i, i < l.length → c[a.off + i]? = l[i]? := by
    intro i hi
    have q := h i hi
    rw [List.getElem?_eq_getElem hi] at q ⊢
    obtain ⟨_, c', el', fz', t2, t3⟩ := cell_some q
    rw [add_block, s2] at t2
    rw [add_off] at t3
    simp only [Option.some.injEq, Obj.cells.injEq] at t2
    obtain ⟨rfl, _, _⟩ := t2
    exact t3
  refine ⟨s1, c, el, fz, s2, ?_, key⟩
  have := key (l.length - 1) (by omega)
  rw [List.getElem?_eq_getElem (by omega)] at this
  have hlt := (Array.getElem?_eq_some_iff.1 this).1
  omega

/-- a view of a row -/
theorem view_row {E : Env} {h : Heap} (s : Sim ⟨W, fun _ => none⟩ E h W) {a : Addr} {cap : Nat} {l : List Value} (h0 : 0 < l.length) (hc : ∀ i, i < l.length → W.cell? (a.add i) = l[i]?) {us : List V} (hr : RelL E us l) :
    ∃ E' h' b, E.le E' ∧ Ext h h' ∧ Sim ⟨W, fun _ => none⟩ E' h' W ∧ Old h' b ∧ a.spot = none ∧ E' b = some ⟨a.block, a.off, cap⟩ ∧ (us.length ≤ top → Rd h' b us) := by
  obtain ⟨s1, c, el, fz, s2, s3, s4⟩ := row_cells h0 hc
  have hul : us.length = l.length := (RelL.length hr).symm
  by_cases ht : us.length ≤ top
  · refine ⟨viewE E h ⟨a.block, a.off, cap⟩, h.new (.ro us), pa h.next, viewE_le s _, (Ext.refl h).new _, sim_view s s2 ht (by omega) fun i v y hv hy => ?_, old_self, s1, viewE_self _ _ _, fun _ => .inl (get_new_self _)⟩
    have hi : i < l.length := by
      have := (List.getElem?_eq_some_iff.1 hv).1
      omega
    rw [s4 i hi] at hy
    obtain ⟨y', e1, e2⟩ := RelL.get hr i v hv
    rw [hy] at e1
    simp only [Option.some.injEq] at e1
    rw [e1]
    exact e2
  · exact ⟨viewE E h ⟨a.block, a.off, cap⟩, h.new .dead, pa h.next, viewE_le s _, (Ext.refl h).new _, sim_new s _ _ rfl trivial, old_self, s1, viewE_self _ _ _, fun q => absurd q ht⟩

theorem flatten_get {α : Type} (size : Nat) : ∀ (pieces : List (List α)) (i j : Nat), (∀ l ∈ pieces, l.length = size) → i < pieces.length → j < size → pieces.flatten[i * size + j]? = (pieces[i]?).bind (·[j]?)
  | [], i, j, _, hi, _ => by simp at hi
  | l :: ls, i, j, hp, hi, hj => by
    have hl : l.length = size := hp l (by simp)
    cases i with
    | zero =>
      rw [Nat.zero_mul, Nat.zero_add, List.flatten_cons, List.getElem?_append_left (by omega)]
      simp
    | succ i =>
      rw [List.flatten_cons, List.getElem?_append_right (by rw [hl, Nat.add_mul]; omega)]
      rw [show (i + 1) * size + j - l.length = i * size + j from by rw [hl, Nat.add_mul]; omega]
      rw [flatten_get size ls i j (fun l hl => hp l (by simp [hl])) (by simpa using hi) hj]
      simp
theorem flatten_len {α : Type} (size : Nat) : ∀ (pieces : List (List α)), (∀ l ∈ pieces, l.length = size) → pieces.flatten.length = pieces.length * size
  | [], _ => by simp
  | l :: ls, hp => by
    rw [List.flatten_cons, List.length_append, flatten_len size ls (fun l hl => hp l (by simp [hl])), hp l (by simp), List.length_cons, Nat.add_mul]
    omega

theorem pick_all {α : Type} (R : Nat → α → Prop) : ∀ (len : Nat), (∀ i, i < len → ∃ l, R i l) → ∃ ps : List α, ps.length = len ∧ ∀ i l, ps[i]? = some l → R i l
  | 0, _ => ⟨[], rfl, fun i l q => by simp at q⟩
  | m + 1, h => by
    obtain ⟨ps, q1, q2⟩ := pick_all R m (fun i hi => h i (by omega))
    obtain ⟨l, h1⟩ := h m (by omega)
    refine ⟨ps ++ [l], by simp [q1], fun i l' hl' => ?_⟩
    by_cases hi : i < ps.length
    · rw [List.getElem?_append_left hi] at hl'
      exact q2 i l' hl'
    · rw [List.getElem?_append_right (by omega)] at hl'
      have e0 : i - ps.length = 0 := by
        by_cases q : i - ps.length = 0
        · exact q
        · rw [List.getElem?_eq_none (by simp; omega)] at hl'
          cases hl'
      rw [e0] at hl'
      simp at hl'
      subst hl'
      obtain rfl : i = m := by omega
      exact h1

/-- WHATEVER CAN BE READ LIES SO IN THE MACHINE. -/
theorem lays (hT : tilesB P = true) (hL : laidOutB P = true) : ∀ (n : Nat) (t : TypeId) (cs : List Value) (x : DataW H × List MemPlace), t < P.types.size → DataW.trod enc P W base sp held n t cs = some x → Lays P W n t cs
  | 0, t, cs, x, _, h => by simp [DataW.trod] at h
  | n + 1, t, cs, x, hlt, h => by
    have bads : ∀ (cs : List Value), (∀ h' vs, vs.length = cs.length → Shp P h' (n + 1) t vs) → Lays P W (n + 1) t cs := by
      intro cs H E h s
      refine ⟨E, h, cs.map fun _ => .bad, fun _ _ q => q, Ext.refl h, s, ?_, by simp, H _ _ (by simp)⟩
      clear H
      induction cs with
      | nil => rfl
      | cons c cs ih => exact ⟨c, cs, rfl, by simp [Rel], ih⟩
    cases hu : P.underlying t with
    | none =>
      refine bads cs fun h' vs _ => ?_
      simp only [Shp, hu]
    | some u =>
      cases u with
      | bool =>
        obtain ⟨b, rfl, _⟩ := DataW.trod_bool hu h
        intro E h s
        exact ⟨E, h, [.bool b], fun _ _ q => q, Ext.refl h, s, ⟨_, _, rfl, rfl, rfl⟩, rfl, by simp only [Shp, hu]; exact ⟨b, rfl⟩⟩
      | int k =>
        obtain ⟨i, rfl, _, hw⟩ := DataW.trod_int hu h
        intro E h s
        exact ⟨E, h, [.int k i], fun _ _ q => q, Ext.refl h, s, ⟨_, _, rfl, rfl, rfl⟩, rfl, by simp only [Shp, hu]; exact ⟨i, rfl, hw⟩⟩
      | string =>
        obtain ⟨b, rfl, _, hw⟩ := DataW.trod_string hu h
        intro E h s
        exact ⟨E, h, [.str b.data.toList], fun _ _ q => q, Ext.refl h, s, ⟨_, _, rfl, rfl, rfl⟩, rfl, by simp only [Shp, hu]; exact ⟨_, rfl, by simpa using hw⟩⟩
      | struct fs =>
        obtain ⟨xs, n', hn, _, hl, hxl, hf⟩ := DataW.trod_struct hu h
        obtain rfl : n = n' := by omega
        have htile : tiles P fs.toList 0 = some (P.cellsOf t) := by
          unfold tilesB at hT
          rw [List.all_eq_true] at hT
          have := hT t (List.mem_range.2 hlt)
          rw [hu] at this
          exact of_decide_eq_true this
        have hfl : ∀ f ∈ fs.toList, Lays P W n f.type ((cs.drop f.offset).take (P.cellsOf f.type)) := by
          intro f hf'
          obtain ⟨i, hi⟩ := List.getElem?_of_mem hf'
          have hi' : fs[i]? = some f := by simpa using hi
          have := hf i f hi'
          have hlx : i < xs.length := by
            rw [hxl]
            exact (Array.getElem?_eq_some_iff.1 hi').1
          rw [List.getElem?_eq_getElem hlx] at this
          exact lays hT hL n _ _ _ ((kid_struct hL hlt hu).1 f hf') this
        intro E h s
        obtain ⟨_, g⟩ := lays_fields n fs.toList 0 _ cs htile hl hfl
        obtain ⟨E', h', vs, a1, a2, a3, a4, a5, a6⟩ := g E h s
        refine ⟨E', h', vs, a1, a2, a3, by simpa using a4, by rw [a5, hl]; omega, ?_⟩
        simp only [Shp, hu]
        refine ⟨by omega, fun f hf' => ?_⟩
        simpa using (a6 f hf').2
      | slice e =>
        rcases DataW.trod_slice hu h with ⟨rfl, _⟩ | ⟨a, len, cap, elems, rest, n', hn, rfl, _, hb, hlc, hcm, hel, hget, _, _⟩
        · intro E h s
          exact ⟨E, h, [.nilslice], fun _ _ q => q, Ext.refl h, s, ⟨_, _, rfl, rfl, rfl⟩, rfl, by simp only [Shp, hu]; exact .inl trivial⟩
        · obtain rfl : n = n' := by omega
          by_cases hs : P.cellsOf e = 0
          · refine bads _ fun h' vs _ => ?_
            simp only [Shp, hu]
            exact .inr (.inr (.inl hs))
          by_cases hl0 : len = 0
          · subst hl0
            intro E h s
            refine ⟨E, h, [.tslice .z 0 0 0], fun _ _ q => q, Ext.refl h, s, ⟨_, _, rfl, ?_, rfl⟩, rfl, by simp only [Shp, hu]; exact .inr (.inl ⟨_, _, _, _, rfl⟩)⟩
            simp only [Rel]
            exact ⟨_, _, rfl⟩
          · -- its elements
            have hpe : ∀ i, i < len → ∃ l, W.cells? base (a.add (i * P.cellsOf e)) (P.cellsOf e) = some l ∧ Lays P W n e l := by
              intro i hi
              have := hget i hi
              rw [List.getElem?_eq_getElem (by omega)] at this
              rw [Option.bind_eq_some_iff] at this
              obtain ⟨l, h1, h2⟩ := this
              exact ⟨l, h1, lays hT hL n _ _ _ (kid_slice hL hlt hu) h2⟩
            obtain ⟨pieces, hp1, hp2⟩ : ∃ pieces : List (List Value), pieces.length = len ∧ ∀ i (l : List Value), pieces[i]? = some l → W.cells? base (a.add (i * P.cellsOf e)) (P.cellsOf e) = some l ∧ Lays P W n e l := by
              exact pick_all (fun i l => W.cells? base (a.add (i * P.cellsOf e)) (P.cellsOf e) = some l ∧ Lays P W n e l) len hpe
            have hpl : ∀ l ∈ pieces, l.length = P.cellsOf e ∧ Lays P W n e l := by
              intro l hl
              obtain ⟨i, hi⟩ := List.getElem?_of_mem hl
              obtain ⟨q1, q2⟩ := hp2 i l hi
              exact ⟨(cells_get q1).1, q2⟩
            intro E h s
            obtain ⟨E1, h1, us, a1, a2, a3, a4, a5, a6⟩ := lays_pieces n (P.cellsOf e) e pieces hpl E h s
            have hfl := flatten_len (P.cellsOf e) pieces (fun l hl => (hpl l hl).1)
            have hpos : 0 < len * P.cellsOf e := Nat.mul_pos (by omega) (by omega)
            have hcell : ∀ i, i < pieces.flatten.length → W.cell? (a.add i) = pieces.flatten[i]? := by
              intro q hq
              rw [hfl] at hq
              have hmod : q % P.cellsOf e < P.cellsOf e := Nat.mod_lt _ (by omega)
              have hdiv : q / P.cellsOf e < pieces.length := Nat.div_lt_of_lt_mul (by rw [Nat.mul_comm]; exact hq)
              have hq2 : q / P.cellsOf e * P.cellsOf e + q % P.cellsOf e = q := by rw [Nat.mul_comm]; exact Nat.div_add_mod q _
              rw [← hq2, flatten_get (P.cellsOf e) pieces _ _ (fun l hl => (hpl l hl).1) hdiv hmod, List.getElem?_eq_getElem hdiv]
              obtain ⟨q1, _⟩ := hp2 _ _ (List.getElem?_eq_getElem hdiv)
              have := (cells_get q1).2 _ hmod
              rw [Option.bind_some, ← this]
              congr 1
              unfold Addr.add
              by_cases z1 : q / P.cellsOf e * P.cellsOf e = 0
              · rw [z1]; simp
              · by_cases z2 : q % P.cellsOf e = 0
                · rw [z2]; simp
                · have z3 : ¬ (q / P.cellsOf e * P.cellsOf e + q % P.cellsOf e = 0) := by omega
                  rw [if_neg z1, if_neg z2, if_neg z3]
                  simp [Nat.add_assoc]
            obtain ⟨E2, h2, b, b1, b2, b3, b4, b5, b6, b7⟩ := view_row a3 (cap := cap) (by rw [hfl, hp1]; exact hpos) hcell a4
            refine ⟨E2, h2, [.slice b 0 len cap], a1.trans b1, a2.trans b2, b3, ⟨_, _, rfl, ?_, rfl⟩, rfl, ?_⟩
            · simp only [Rel]
              refine ⟨_, b6, hlc, ?_⟩
              obtain ⟨bl, of', st⟩ := a
              simp only at b5
              subst b5
              rfl
            · simp only [Shp, hu]
              refine .inr (.inr (.inr ⟨b, len, cap, rfl, by omega, hlc, hcm, b4, fun ht => ⟨us, b7 (by rw [a5, hp1]; exact ht), by rw [a5, hp1], fun i hi => Shp.ext b2 _ _ _ (a6 i (by omega))⟩⟩))
      | pointer e =>
        rcases DataW.trod_pointer hu h with ⟨rfl, _⟩ | ⟨a, cs', y, n', hn, rfl, _, hc, hy⟩
        · intro E h s
          exact ⟨E, h, [.nilptr], fun _ _ q => q, Ext.refl h, s, ⟨_, _, rfl, rfl, rfl⟩, rfl, by simp only [Shp, hu]; exact .inl trivial⟩
        · obtain rfl : n = n' := by omega
          by_cases hs : P.cellsOf e = 0
          · refine bads _ fun h' vs _ => ?_
            simp only [Shp, hu]
            exact .inr (.inl hs)
          · intro E h s
            obtain ⟨q1, q2⟩ := cells_get hc
            obtain ⟨E1, h1, us, a1, a2, a3, a4, a5, a6⟩ := lays hT hL n _ _ _ (kid_pointer hL hlt hu) hy E h s
            obtain ⟨E2, h2, b, b1, b2, b3, b4, b5, b6, b7⟩ := view_row a3 (cap := 0) (by omega) (fun i hi => q2 i (by omega)) a4
            refine ⟨E2, h2, [.ptr b 0], a1.trans b1, a2.trans b2, b3, ⟨_, _, rfl, ?_, rfl⟩, rfl, ?_⟩
            · simp only [Rel]
              refine ⟨_, b6, ?_⟩
              obtain ⟨bl, of', st⟩ := a
              simp only at b5
              subst b5
              rfl
            · simp only [Shp, hu]
              exact .inr (.inr ⟨b, rfl, b4, fun ht => ⟨us, b7 (by omega), by omega, Shp.ext b2 _ _ _ a6⟩⟩)
      | map k e =>
        have hcs : cs.length = 1 := by
          unfold DataW.trod at h
          rw [hu] at h
          split at h <;> simp_all
        intro E h s
        refine ⟨E, h, [.bad], fun _ _ q => q, Ext.refl h, s, ?_, by simp [hcs], by simp only [Shp, hu]; exact .inr trivial⟩
        match cs, hcs with
        | [c], _ => exact ⟨c, [], rfl, by simp [Rel], rfl⟩
      | interface ms =>
        have hcs : cs.length = 1 := by
          unfold DataW.trod at h
          rw [hu] at h
          split at h <;> simp_all
        intro E h s
        refine ⟨E, h, [.bad], fun _ _ q => q, Ext.refl h, s, ?_, by simp [hcs], by simp only [Shp, hu]; exact .inr trivial⟩
        match cs, hcs with
        | [c], _ => exact ⟨c, [], rfl, by simp [Rel], rfl⟩
      | _ =>
        refine bads cs fun h' vs _ => ?_
        simp only [Shp, hu]

/-- an argument, as a whole -/
def ShpV (P : Program) (h : Heap) (n : Nat) (t : TypeId) (v : V) : Prop :=
  match P.underlying t with
  | some (.struct _) | some (.array _ _) => ∃ vs, v = .agg vs ∧ Shp P h n t vs
  | _ => Shp P h n t [v]
theorem ShpV.ext {h h' : Heap} (e : Ext h h') {n : Nat} {t : TypeId} {v : V} (H : ShpV P h n t v) : ShpV P h' n t v := by
  unfold ShpV at H ⊢
  split at H
  · obtain ⟨vs, q1, q2⟩ := H
    exact ⟨vs, q1, Shp.ext e _ _ _ q2⟩
  · obtain ⟨vs, q1, q2⟩ := H
    exact ⟨vs, q1, Shp.ext e _ _ _ q2⟩
  · exact Shp.ext e _ _ _ H

theorem lays_arg (hT : tilesB P = true) (hL : laidOutB P = true) {r : Reach} {b0 : Nat} {t : TypeId} {v : Value} {d : DataW H} {p : List MemPlace} (hlt : t < P.types.size) (hok : Value.okWide P W r b0 t v) (hd : DataW.Trod enc P W base sp held t v d p) {E : Env} {h : Heap} (s : Sim ⟨W, fun _ => none⟩ E h W) :
    ∃ n E' h' x, E.le E' ∧ Ext h h' ∧ Sim ⟨W, fun _ => none⟩ E' h' W ∧ Rel E' x v ∧ ShpV P h' n t x := by
  obtain ⟨fuel, hf⟩ := hd
  obtain ⟨E', h', vs, a1, a2, a3, a4, a5, a6⟩ := lays hT hL _ _ _ _ hlt hf E h s
  have agg : (∃ cs, v = .agg cs) → ∃ x, Rel E' x v ∧ x = .agg vs := by
    rintro ⟨cs, rfl⟩
    exact ⟨.agg vs, by simp only [Rel]; exact ⟨cs, rfl, a4⟩, rfl⟩
  have one : v.cells = #[v] → ∃ x, Rel E' x v ∧ vs = [x] := by
    intro hc
    rw [hc] at a4 a5
    match vs, a4, a5 with
    | [x], ⟨y, ys, e1, e2, e3⟩, _ =>
      simp only [List.cons.injEq] at e1
      exact ⟨x, e1.1 ▸ e2, rfl⟩
  refine ⟨fuel, E', h', ?_⟩
  unfold Value.okWide at hok
  cases hu : P.underlying t with
  | none =>
    rw [hu] at hok
    simp only [Cell.okWide, Cell.ok, hu] at hok
  | some u =>
    rw [hu] at hok
    unfold ShpV
    rw [hu]
    cases u <;> simp only at hok ⊢ <;> first
      | (obtain ⟨cs, hv, _⟩ := hok
         obtain ⟨x, q1, q2⟩ := agg ⟨cs, hv⟩
         exact ⟨x, a1, a2, a3, q1, vs, q2, a6⟩)
      | (have hc : v.cells = #[v] := by
           cases v <;> first
             | rfl
             | (simp only [Cell.okWide, Cell.ok, hu] at hok)
         obtain ⟨x, q1, q2⟩ := one hc
         exact ⟨x, a1, a2, a3, q1, q2 ▸ a6⟩)

def ShpL (P : Program) (h : Heap) : List TypeId → List V → Prop
  | [], [] => True
  | t :: ts, v :: vs => (∃ n, ShpV P h n t v) ∧ ShpL P h ts vs
  | _, _ => False
theorem ShpL.ext {h h' : Heap} (e : Ext h h') : ∀ {ts : List TypeId} {vs : List V}, ShpL P h ts vs → ShpL P h' ts vs
  | [], [], H => H
  | [], _ :: _, H => H.elim
  | _ :: _, [], H => H.elim
  | t :: ts, v :: vs, ⟨⟨n, H⟩, H'⟩ => ⟨⟨n, H.ext e⟩, ShpL.ext e H'⟩

theorem lays_args (hT : tilesB P = true) (hL : laidOutB P = true) {r : Reach} {b0 : Nat} : ∀ {ts : List TypeId} {vs : List Value} {ds : List (DataW H)} {p : List MemPlace}, (∀ t ∈ ts, t < P.types.size) → (∀ (j : Nat) t v, ts[j]? = some t → vs[j]? = some v → Value.okWide P W r b0 t v) →
    DataW.TrodAll enc P W base sp held ts vs ds p → ∀ {E : Env} {h : Heap}, Sim ⟨W, fun _ => none⟩ E h W → ∃ E' h' xs, E.le E' ∧ Ext h h' ∧ Sim ⟨W, fun _ => none⟩ E' h' W ∧ RelL E' xs vs ∧ ShpL P h' ts xs
  | [], [], ds, p, _, _, _, E, h, s => ⟨E, h, [], fun _ _ q => q, Ext.refl h, s, rfl, trivial⟩
  | [], _ :: _, ds, p, _, _, hd, E, h, s => by cases ds <;> exact hd.elim
  | _ :: _, [], ds, p, _, _, hd, E, h, s => by cases ds <;> exact hd.elim
  | _ :: _, _ :: _, [], p, _, _, hd, E, h, s => hd.elim
  | t :: ts, v :: vs, d :: ds, p, ht, hv, ⟨p1, p2, h1, h2, _⟩, E, h, s => by
    obtain ⟨n, E1, g1, x, a1, a2, a3, a4, a5⟩ := lays_arg hT hL (ht t (by simp)) (hv 0 t v rfl rfl) h1 s
    obtain ⟨E2, g2, xs, b1, b2, b3, b4, b5⟩ := lays_args hT hL (fun t q => ht t (by simp [q])) (fun j t v q1 q2 => hv (j + 1) t v (by simpa using q1) (by simpa using q2)) h2 a3
    exact ⟨E2, g2, x :: xs, a1.trans b1, a2.trans b2, b3, ⟨_, _, rfl, Rel.mono b1 _ _ a4, b4⟩, ⟨n, a5.ext b2⟩, b5⟩

/-- A CALL OF WHAT WAS HANDED IN: if the machine answers true, whatever the arguments of these types, the program does, and turns nothing that was there. -/
theorem call_true (hT : tilesB P = true) (hL : laidOutB P = true) {r : Reach} {b0 : Nat} {f : FuncId} {ts : List TypeId} {vs : List Value} {ds : List (DataW H)} {p : List MemPlace} (hts : ∀ t ∈ ts, t < P.types.size) (hv : ∀ (j : Nat) t v, ts[j]? = some t → vs[j]? = some v → Value.okWide P W r b0 t v)
    (hd : DataW.TrodAll enc P W base sp held ts vs ds p) (hW : Lay.ok W) (hN : NamesOk P) (hb : ∃ fn, P.funcs[f]? = some fn ∧ fn.body.isSome = true) (hc : ∀ (h : Heap) (xs : List V), ShpL P h ts xs → Ctr P f xs h fun y _ => y = .bool true) :
    Calls P f vs.toArray W fun e w' => e = .returned (.bool true) ∧ Below W.heap.size W w' := by
  obtain ⟨E, h, xs, _, _, a3, a4, a5⟩ := lays_args hT hL hts hv hd (sim_empty W hW)
  obtain ⟨y, h', hc', rfl⟩ := hc h xs a5
  refine (hc'.calls hN hb _ E W vs a4 a3).mono fun e w' q => ?_
  obtain ⟨E', x, rfl, _, q2, q3⟩ := q
  simp only [Rel] at q2
  subst q2
  exact ⟨rfl, q3.frame⟩
end
end Go.Proofs.YthcgccnbhdociaaDoor.Am

namespace Go.Proofs.YthcgccnbhdociaaDoor.Am
variable [Lay]
set_option linter.unusedSectionVars false
open Go Go.RowKit
set_option linter.unusedVariables false

/-! Opening what was handed in. -/
theorem collect {α : Type} (enc : α → List V) (size : Nat) (Q : α → Prop) : ∀ (len : Nat) (us : List V), us.length = len * size → (∀ i, i < len → ∃ a, (us.drop (i * size)).take size = enc a ∧ Q a) →
    ∃ as : List α, as.length = len ∧ us = as.flatMap enc ∧ ∀ a ∈ as, Q a
  | 0, us, hl, _ => ⟨[], rfl, by simpa using hl, fun a h => by simp at h⟩
  | len + 1, us, hl, h => by
    obtain ⟨a, h1, h2⟩ := h 0 (by omega)
    rw [Nat.add_mul, Nat.one_mul] at hl
    obtain ⟨as, g1, g2, g3⟩ := collect enc size Q len (us.drop size) (by rw [List.length_drop]; omega) (fun i hi => by
      obtain ⟨b, k1, k2⟩ := h (i + 1) (by omega)
      refine ⟨b, ?_, k2⟩
      rw [List.drop_drop, ← k1, Nat.add_mul, Nat.one_mul, Nat.add_comm])
    refine ⟨a :: as, by simp [g1], ?_, fun b hb => ?_⟩
    · rw [List.flatMap_cons, ← g2, ← h1, Nat.zero_mul, List.drop_zero, List.take_append_drop]
    · rcases List.mem_cons.1 hb with rfl | hb
      · exact h2
      · exact g3 b hb

section
variable {P : Program} {h : Heap} {n : Nat} {t : TypeId}

theorem Shp.pos {vs : List V} (H : Shp P h n t vs) : ∃ m, n = m + 1 := by
  cases n with
  | zero => exact H.elim
  | succ m => exact ⟨m, rfl⟩
theorem Shp.bool {vs : List V} (H : Shp P h n t vs) (hu : P.underlying t = some .bool) : ∃ b, vs = [.bool b] := by
  obtain ⟨m, rfl⟩ := H.pos
  simpa only [Shp, hu] using H
theorem Shp.int {vs : List V} {k : IntKind} (H : Shp P h n t vs) (hu : P.underlying t = some (.int k)) : ∃ i, vs = [.int k i] ∧ (Lit.int k i).wf = true := by
  obtain ⟨m, rfl⟩ := H.pos
  simpa only [Shp, hu] using H
theorem Shp.str {vs : List V} (H : Shp P h n t vs) (hu : P.underlying t = some .string) : ∃ s : List UInt8, vs = [.str s] ∧ s.length ≤ maxLen := by
  obtain ⟨m, rfl⟩ := H.pos
  simpa only [Shp, hu] using H
theorem Shp.struct {vs : List V} {fs : Array Field} (H : Shp P h n t vs) (hu : P.underlying t = some (.struct fs)) : ∃ m, n = m + 1 ∧ vs.length = P.cellsOf t ∧ ∀ f ∈ fs.toList, Shp P h m f.type ((vs.drop f.offset).take (P.cellsOf f.type)) := by
  obtain ⟨m, rfl⟩ := H.pos
  refine ⟨m, rfl, ?_⟩
  simpa only [Shp, hu] using H

/-- a slice that was handed in -/
def Sld (h : Heap) (size : Nat) (v : V) (len : Nat) (Q : List V → Prop) : Prop :=
  v.one = true ∧ v.cells = [v] ∧ v.good = true ∧ lenSl v = some (.int .i64 len) ∧ len ≤ maxLen ∧ (len * size ≤ top → ∃ us, SlV h size v len us ∧ ∀ i, i < len → Q ((us.drop (i * size)).take size))

theorem Shp.slice {vs : List V} {e : TypeId} (H : Shp P h n t vs) (hu : P.underlying t = some (.slice e)) (hs : P.cellsOf e ≠ 0) : ∃ m v len, n = m + 1 ∧ vs = [v] ∧ Sld h (P.cellsOf e) v len (Shp P h m e) := by
  obtain ⟨m, rfl⟩ := H.pos
  simp only [Shp, hu] at H
  rcases H with rfl | ⟨b, i, j, k, rfl⟩ | q | ⟨b, len, cap, rfl, h1, h2, h3, h4, h5⟩
  · exact ⟨m, _, 0, rfl, rfl, rfl, rfl, rfl, rfl, Nat.zero_le _, fun _ => ⟨[], ⟨by simp, rfl⟩, fun i hi => by omega⟩⟩
  · exact ⟨m, _, 0, rfl, rfl, rfl, rfl, rfl, rfl, Nat.zero_le _, fun _ => ⟨[], ⟨by simp, rfl⟩, fun i hi => by omega⟩⟩
  · exact absurd q hs
  · refine ⟨m, _, len, rfl, rfl, rfl, rfl, rfl, rfl, by omega, fun q => ?_⟩
    obtain ⟨us, k1, k2, k3⟩ := h5 q
    exact ⟨us, ⟨k2, rfl, h4, us, k1, by omega, by simp⟩, k3⟩
end
end Go.Proofs.YthcgccnbhdociaaDoor.Am

namespace Go.Proofs.YthcgccnbhdociaaDoor.Am
variable [Lay]
set_option linter.unusedSectionVars false
open Go Go.RowKit Go.ChangeShapes Go.WideShapes
set_option linter.unusedVariables false

/-! A law that is told true: from the machine to the statement's own form. -/
section
variable {H : Type} {enc : TypeId × Value → H} {P : Program}

theorem below_all (hL : laidOutB P = true) {W W' : World} (hb : Below W.heap.size W W') : ∀ {ts : List TypeId} {vs : List Value} {ds : List (DataW H)} {ps : List MemPlace}, (ts.all fun t => P.readableRec t && decide (t < P.types.size)) = true →
    DataW.TrodAll enc P W 0 (fun _ => true) true ts vs ds ps → DataW.TrodAll enc P W' 0 (fun b => decide (b < W.heap.size)) true ts vs ds ps
  | [], [], [], _, _, h => h
  | [], _ :: _, _, _, _, h => by rename_i ds _; cases ds <;> exact h.elim
  | [], [], _ :: _, _, _, h => h.elim
  | _ :: _, [], _, _, _, h => by rename_i ds _; cases ds <;> exact h.elim
  | _ :: _, _ :: _, [], _, _, h => h.elim
  | t :: ts, v :: vs, d :: ds, ps, hr, h => by
    have hlt := h.lt
    obtain ⟨p, q, h1, h2, rfl⟩ := h
    simp only [List.all_cons, Bool.and_eq_true, decide_eq_true_eq] at hr
    exact ⟨p, q, Below.trod hL hr.1.1 hr.1.2 h1 hb (fun x hx => hlt x (by simp [hx])), below_all hL hb hr.2 h2, rfl⟩

theorem trodAll_len {W : World} {base : Nat} {sp : Nat → Bool} {held : Bool} : ∀ {ts : List TypeId} {vs : List Value} {ds : List (DataW H)} {ps : List MemPlace}, DataW.TrodAll enc P W base sp held ts vs ds ps → ds.length = ts.length
  | [], [], [], _, _ => rfl
  | [], _ :: _, ds, _, h => by cases ds <;> exact h.elim
  | [], [], _ :: _, _, h => h.elim
  | _ :: _, [], ds, _, h => by cases ds <;> exact h.elim
  | _ :: _, _ :: _, [], _, h => h.elim
  | t :: ts, v :: vs, d :: ds, ps, h => by
    obtain ⟨p, q, h1, h2, rfl⟩ := h
    simp [trodAll_len h2]

theorem law_true (hT : tilesB P = true) (hL : laidOutB P = true) {f : FuncId} {fn : Func} {s : ChangeSpec} {tb : TypeId} (hts : (fn.params.toList.all fun t => P.readableRec t && decide (t < P.types.size)) = true) (hvars : s.vars = []) (hrt : fn.resultTypes = #[tb]) (hub : P.underlying tb = some .bool)
    (hspec : ∀ ds : List (DataW H), ds.length = fn.params.size → s.fn H (ds ++ []) = { results := [.lit (.bool true)], args := ds })
    (hc : ∀ (h : Heap) (xs : List V), ShpL P h fn.params.toList xs → Ctr P f xs h fun y _ => y = .bool true)
    {W : World} {base : Nat} {args : Array Value} {ds gs : List (DataW H)} {before : List MemPlace} (hlay : Lay.ok W) (hN : NamesOk P) (hb : ∃ fn, P.funcs[f]? = some fn ∧ fn.body.isSome = true)
    (hval : ∀ (j : Nat) t v, fn.params[j]? = some t → args[j]? = some v → Value.okWide P W .any base t v) (hW : DataW.Whole enc P fn.params.toList s.vars false W args.toList ds gs before) :
    Calls P f args W fun e W' => ∃ v, e = .returned v ∧ s.post enc P fn false true false false W args v W' := by
  have hW' := hW
  obtain ⟨p, q, hA, hV, rfl, hfz, hnd⟩ := hW
  rw [hvars] at hV
  obtain ⟨rfl, rfl⟩ := trodVars_none hV
  have hlen : ds.length = fn.params.size := by rw [trodAll_len hA]; simp
  have hw := call_true hT hL (b0 := base) (r := .any) (fun t ht => by
    have := List.all_eq_true.1 hts t ht
    simp only [Bool.and_eq_true, decide_eq_true_eq] at this
    exact this.2) (fun j t v h1 h2 => hval j t v (by simpa using h1) (by simpa using h2)) hA hlay hN hb hc
  simp only [Array.toArray_toList] at hw
  refine hw.mono fun e W' ⟨he, bel⟩ => ?_
  subst he
  refine ⟨_, rfl, ds, [], p ++ [], [], p, [], hW', ?_, ?_, ?_, bel.frame _, fun h => by cases h⟩
  · rw [hspec ds hlen, hrt]
    exact trodAll_mk1 (shut_bool hub _)
  · rw [hspec ds hlen]
    exact below_all hL bel hts hA
  · rw [hspec ds hlen, hvars]
    rfl
end
end Go.Proofs.YthcgccnbhdociaaDoor.Am

namespace Go.Proofs.YthcgccnbhdociaaDoor.Am
variable [Lay]
set_option linter.unusedSectionVars false
set_option linter.unusedVariables false
open Go Go.RowKit

/-! The library's functions without a body, and those that are taken by contract. -/
theorem extern_calls {P : Program} {f : FuncId} {fn : Func} {e : Array Value → Sem Value} (hf : P.funcs[f]? = some fn) (hn : (fn.name == "runtime.NumGoroutine") = false) (hb : fn.body.isNone = true) (h1 : Extern.findNext fn = none) (h2 : Extern.find fn = some e)
    {args : List V} {v : V} {h : Heap} (he : ∀ E xs w, RelL E args xs → ∃ x, (e xs.toArray).run P w = .ok x w ∧ Rel E v x) : CallsV P f args h v h := by
  refine .inr fun w0 E w xs hx s => ?_
  obtain ⟨x, hr, hv⟩ := he E xs w hx
  refine ⟨E, x, w, ?_, fun _ _ q => q, hv, s⟩
  simp only [callFunc, Sem.run_bind, run_program, Result.andThen_ok, hf]
  rw [if_neg (by rw [hn]; simp), if_pos hb]
  simp only [Sem.run_bind, h1, h2]
  have hm : (mark (.extern f)).run P w = .ok () w := rfl
  rw [hm]
  simp only [Result.andThen_ok, Sem.run_bind, hr, Sem.run_pure]

theorem indexByteString_calls {P : Program} {f : FuncId} {fn : Func} (hf : P.funcs[f]? = some fn) (hn : (fn.name == "runtime.NumGoroutine") = false) (hb : fn.body.isNone = true) (h1 : Extern.findNext fn = none) (h2 : Extern.find fn = some Extern.BytealgIndexByte.indexByte)
    (s : List UInt8) (c : Int) (h : Heap) : CallsV P f [.str s, .int .u8 c] h (.int .i64 (Lib.indexByte s c.toNat.toUInt8)) h := by
  refine extern_calls hf hn hb h1 h2 fun E xs w hx => ?_
  obtain ⟨y, ys, rfl, q1, z, zs, rfl, q2, rfl⟩ := hx
  simp only [Rel] at q1 q2
  subst q1 q2
  exact ⟨_, Lib.run_indexByteString _ _ _, by simp [Rel]⟩
end Go.Proofs.YthcgccnbhdociaaDoor.Am

namespace Go.Proofs.YthcgccnbhdociaaDoor.Am
variable [Lay]
set_option linter.unusedSectionVars false
open Go Go.RowKit
set_option linter.defProp false

/-! The lemmas of the walk, in bundles. -/
def wpA1 :=
  And.intro @k_nil <| And.intro @k_blk <| And.intro @k_seq <| And.intro @k_block <| And.intro @k_reg <| And.intro @k_skip <| And.intro @k_ret <| And.intro @k_exit <| And.intro @k_cret <| And.intro @k_cexit <| And.intro @k_cond <| And.intro @k_loop <| And.intro @k_draw <| And.intro @k_osnil <| And.intro @k_mv <| And.intro @kg_mv <| And.intro @k_pick <| And.intro @kg_pick <| And.intro @k_build <| And.intro @kg_build <| And.intro @k_ld1 <| And.intro @kg_ld1 <| And.intro @k_ldn <| And.intro @kg_ldn <| And.intro @k_nilck <| And.intro @kg_nilck <| And.intro @k_bin <| And.intro @kg_bin <| And.intro @k_un <| And.intro @kg_un <| And.intro @k_fn <| And.intro @kg_fn <| And.intro @k_ifc <| And.intro @kg_ifc <| And.intro @k_slstr <| And.intro @kg_slstr <| And.intro @k_sl <| And.intro @kg_sl <| And.intro @k_fa <| @kg_fa
def wpA2 :=
  And.intro @k_fld1 <| And.intro @kg_fld1 <| And.intro @k_fldn <| And.intro @kg_fldn <| And.intro @k_ia <| And.intro @kg_ia <| And.intro @k_iaa <| And.intro @kg_iaa <| And.intro @k_ixs <| And.intro @kg_ixs <| And.intro @k_ix <| And.intro @kg_ix <| And.intro @k_look <| And.intro @kg_look <| And.intro @k_ext <| And.intro @kg_ext <| And.intro @k_mn <| And.intro @kg_mn <| And.intro @k_mx <| And.intro @kg_mx <| And.intro @k_cvint <| And.intro @kg_cvint <| And.intro @k_lenslice <| And.intro @kg_lenslice <| And.intro @k_lenstr <| And.intro @kg_lenstr <| And.intro @k_lenarr <| And.intro @kg_lenarr <| And.intro @k_new <| And.intro @kg_new <| And.intro @k_box <| And.intro @kg_box <| And.intro @k_bsl <| And.intro @kg_bsl <| And.intro @k_st <| And.intro @kg_st <| And.intro @k_mksl <| And.intro @kg_mksl <| And.intro @k_upd <| @kg_upd
def wpA3 :=
  And.intro @k_mkm <| And.intro @kg_mkm <| And.intro @k_rngs <| And.intro @kg_rngs <| And.intro @k_nxt <| And.intro @kg_nxt <| And.intro @k_app <| And.intro @kg_app <| And.intro @k_copy <| And.intro @kg_copy <| And.intro @k_lenmap <| And.intro @kg_lenmap <| And.intro @k_cvbytes <| And.intro @kg_cvbytes <| And.intro @k_cvstr <| And.intro @kg_cvstr <| And.intro @k_cvoth <| And.intro @kg_cvoth <| And.intro @kg_call <| And.intro @kg_callv <| And.intro @k_call <| And.intro @k_callv <| @k_dnil
def wpB1 :=
  And.intro @sv_some <| And.intro @so_val <| And.intro @condK_bool <| And.intro @callv_func <| And.intro @rngO_str <| And.intro @bslO_some <| And.intro @boxO_true <| And.intro @orH_some <| And.intro @fill_nil <| And.intro @fill_if <| And.intro @buildO_some <| And.intro @evPs_nil <| And.intro @evPs_cons <| And.intro @pickB_bool <| And.intro @fa_ptr <| And.intro @on_tup <| And.intro @on_agg <| And.intro @lens_sl <| And.intro @lens_g <| And.intro @lens_t <| And.intro @lens_nil <| And.intro @lenst_str <| And.intro @ia_sl <| And.intro @ia_g <| And.intro @cvi_int <| And.intro @ev_t <| And.intro @ev_c <| And.intro @trim_get <| And.intro @set_get <| And.intro @set_no <| And.intro @ofL_hd <| And.intro @ofL_tl <| And.intro @opt_true <| And.intro @opt_false <| And.intro @vif_true <| And.intro @vif_false <| And.intro @bif_bool <| And.intro @bif_int <| And.intro @bif_optn <| @bif_or
def wpB2 :=
  And.intro @bif_and <| And.intro @Imp_T <| And.intro @Imp_true <| And.intro @Imp_false <| And.intro @took_bool <| And.intro @took_tuple <| And.intro @took_opt <| And.intro @isGate_bool <| And.intro @isGate_tuple <| And.intro @isGate_opt <| And.intro @k_add <| And.intro @k_sub <| And.intro @k_mul <| And.intro @k_eql <| And.intro @k_neq <| And.intro @k_lss <| And.intro @k_leq <| And.intro @k_gtr <| And.intro @k_geq <| And.intro @k_beql <| And.intro @k_bneq <| And.intro @u_not <| And.intro @u_neg <| And.intro @load1_ptr <| And.intro @loadn_ptr <| And.intro @ld1_ofL <| And.intro @ld1_ro <| And.intro @ldn_ofL <| And.intro @ldn_ro <| And.intro @store_ptr <| And.intro @lay_if <| And.intro @get_new_self <| And.intro @get_new <| And.intro @get_set <| And.intro @pa_eq <| And.intro @next_new <| And.intro @next_set <| And.intro @newCells_if <| And.intro @cells_bool <| @one_bool
def wpB3 :=
  And.intro @good_bool <| And.intro @cells_int <| And.intro @one_int <| And.intro @good_int <| And.intro @cells_str <| And.intro @one_str <| And.intro @good_str <| And.intro @cells_nilptr <| And.intro @one_nilptr <| And.intro @good_nilptr <| And.intro @cells_ptr <| And.intro @one_ptr <| And.intro @good_ptr <| And.intro @cells_slice <| And.intro @one_slice <| And.intro @good_slice <| And.intro @cells_gslice <| And.intro @one_gslice <| And.intro @good_gslice <| And.intro @cells_tslice <| And.intro @one_tslice <| And.intro @good_tslice <| And.intro @cells_nilslice <| And.intro @one_nilslice <| And.intro @good_nilslice <| And.intro @cells_nilmap <| And.intro @one_nilmap <| And.intro @good_nilmap <| And.intro @cells_map <| And.intro @one_map <| And.intro @good_map <| And.intro @cells_func <| And.intro @one_func <| And.intro @good_func <| And.intro @cells_nilfunc <| And.intro @one_nilfunc <| And.intro @good_nilfunc <| And.intro @cells_iface <| And.intro @one_iface <| @good_iface
def wpB4 :=
  And.intro @cells_nilIface <| And.intro @one_nilIface <| And.intro @good_nilIface <| And.intro @cells_agg <| And.intro @good_agg <| And.intro @good_tuple <| And.intro @leave_normal <| And.intro @leave_ret <| And.intro @leave_exit <| And.intro @beq_true <| And.intro @beq_false <| And.intro @Bool.not_true <| And.intro @Bool.not_false <| And.intro @Bool.true_and <| And.intro @Bool.and_true <| And.intro @Bool.false_and <| And.intro @Bool.and_false <| And.intro @Bool.not_not <| And.intro @V.bool.injEq <| And.intro @Nat.zero_add <| And.intro @Nat.add_zero <| And.intro @then_normal <| And.intro @then_ret <| And.intro @then_exit <| And.intro @Bool.true_eq_false <| And.intro @Bool.false_eq_true <| And.intro @toN_int <| And.intro @pushD_none <| And.intro @pushD_some <| And.intro @asks_nil <| And.intro @asks_cons <| And.intro @ask_nil <| And.intro @ask_cons <| And.intro @heapF_o <| And.intro @heapO_some <| And.intro @heapO_none <| And.intro @ask_ld1 <| And.intro @ask_ldn <| And.intro @askg_ld1 <| @askg_ldn
def wpB5 :=
  And.intro @nx1 <| And.intro @xn1 <| And.intro @nx2 <| And.intro @xn2 <| And.intro @nx3 <| And.intro @xn3 <| And.intro @nx4 <| And.intro @xn4 <| And.intro @nx5 <| And.intro @xn5 <| And.intro @nx6 <| And.intro @xn6 <| And.intro @nx7 <| And.intro @xn7 <| And.intro @nx8 <| And.intro @xn8 <| And.intro @gateK_tt <| And.intro @gateK_ff <| And.intro @gateK_tf <| And.intro @gateK_ft <| And.intro @gateK_tuple <| And.intro @Bool.or_false <| And.intro @Bool.false_or <| And.intro @Bool.or_true <| And.intro @Bool.true_or <| And.intro @nil_ptr <| And.intro @mn_two <| And.intro @mx_two <| And.intro @opt_no <| And.intro @opt_so <| And.intro @add11 <| And.intro @add21 <| And.intro @add31 <| And.intro @add41 <| And.intro @add51 <| And.intro @add61 <| And.intro @add71 <| And.intro @add81 <| And.intro @add91 <| @add101
def wpB6 :=
  And.intro @add111 <| And.intro @add121 <| And.intro @add131 <| And.intro @add141 <| @add151
end Go.Proofs.YthcgccnbhdociaaDoor.Am

namespace Go.Proofs.YthcgccnbhdociaaDoor.Am
variable [Lay]
set_option linter.unusedSectionVars false
set_option linter.unusedVariables false
set_option linter.unusedSimpArgs false
open Go Go.RowKit

theorem condK_tt {P : Program} {ks : List KS} {r : RF} {h : Heap} {Q : Ex → RF → Heap → Prop} {a b : RC} : condK P (.bool true) a b ks r h Q = wpK P (.c a :: ks) .normal r h Q := by
  rw [condK_bool]; simp
theorem condK_ff {P : Program} {ks : List KS} {r : RF} {h : Heap} {Q : Ex → RF → Heap → Prop} {a b : RC} : condK P (.bool false) a b ks r h Q = wpK P (.c b :: ks) .normal r h Q := by
  rw [condK_bool]; simp
/-! Texts. -/
theorem beqBytes_dec (a b : List UInt8) : beqBytes a b = decide (a = b) := by
  rw [beqBytes_eq, Bool.eq_iff_iff]
  simp

theorem bound_if (k : IntKind) (b : Int) (d y : Nat) : bound (some (.int k b)) d y = if 0 ≤ b ∧ b ≤ (y : Int) then some b.toNat else none := by
  simp only [bound, V.onInt, leB_dec]
  by_cases h1 : 0 ≤ b <;> by_cases h2 : b ≤ (y : Int) <;> simp [h1, h2]

theorem sl_hi (s : List UInt8) (k : IntKind) (b : Int) : sliceStr (.str s) none (some (.int k b)) none = if 0 ≤ b ∧ b ≤ (s.length : Int) then some (.str (s.take b.toNat)) else none := by
  simp only [sliceStr, bound_if]
  by_cases h : 0 ≤ b ∧ b ≤ (s.length : Int)
  · simp only [h, and_self, if_true, bound, List.drop_zero, Nat.sub_zero]
  · simp only [h, if_false]
theorem sl_lo (s : List UInt8) (k : IntKind) (a : Int) : sliceStr (.str s) (some (.int k a)) none none = if 0 ≤ a ∧ a ≤ (s.length : Int) then some (.str (s.drop a.toNat)) else none := by
  simp only [sliceStr, bound_none, bound_if]
  by_cases h : 0 ≤ a ∧ a ≤ (s.length : Int)
  · simp only [h, and_self, if_true]
    rw [List.take_of_length_le (by rw [List.length_drop]; omega)]
  · simp only [h, if_false]
theorem sl_two (s : List UInt8) (k k' : IntKind) (a b : Int) : sliceStr (.str s) (some (.int k a)) (some (.int k' b)) none = if 0 ≤ a ∧ a ≤ b ∧ b ≤ (s.length : Int) then some (.str ((s.drop a.toNat).take (b.toNat - a.toNat))) else none := by
  simp only [sliceStr, bound_if]
  by_cases h : 0 ≤ b ∧ b ≤ (s.length : Int)
  · simp only [h, and_self, if_true]
    by_cases h2 : 0 ≤ a ∧ a ≤ b
    · have : 0 ≤ a ∧ a ≤ ((b.toNat : Nat) : Int) := by omega
      simp only [this, and_self, if_true, h2, h]
    · have h3 : ¬ (0 ≤ a ∧ a ≤ ((b.toNat : Nat) : Int)) := by omega
      have h4 : ¬ (0 ≤ a ∧ a ≤ b ∧ b ≤ (s.length : Int)) := by omega
      have h5 : ¬ (0 ≤ a ∧ a ≤ b ∧ True) := fun q => h2 ⟨q.1, q.2.1⟩
      rw [if_neg h5, if_neg h3]
  · have h4 : ¬ (0 ≤ a ∧ a ≤ b ∧ b ≤ (s.length : Int)) := by omega
    simp only [h, h4, if_false]
theorem sl_all (s : List UInt8) : sliceStr (.str s) none none none = some (.str s) := by
  simp only [sliceStr, bound_none, List.drop_zero, Nat.sub_zero, List.take_length]

section
variable {P : Program}
theorem s_eql (a b : List UInt8) : (BK.str .eql).run P (.str a) (.str b) = some (.bool (decide (a = b))) := by simp only [BK.run, strC, strB, beqBytes_dec]
theorem s_add (a b : List UInt8) : (BK.str .add).run P (.str a) (.str b) = if a.length + b.length ≤ top then some (.str (a ++ b)) else none := by
  simp only [BK.run, strC, strAdd]
  by_cases h : a.length + b.length ≤ top
  · rw [if_pos h, show Nat.ble (a.length + b.length) top = true from by rw [Nat.ble_eq]; exact h]
    rfl
  · rw [if_neg h, show Nat.ble (a.length + b.length) top = false from by rw [← Bool.not_eq_true, Nat.ble_eq]; exact h]
    rfl
theorem s_ix (s : List UInt8) (k : IntKind) (i : Int) : indexStr.run (.str s) (.int k i) = if 0 ≤ i ∧ i < (s.length : Int) then some (.int .u8 (((s[i.toNat]?).getD 0).toNat : Int)) else none := by
  simp only [indexStr, V.onInt, leB_dec]
  by_cases h1 : 0 ≤ i
  · simp only [h1, decide_true, cond_true, true_and]
    by_cases h2 : i < (s.length : Int)
    · rw [if_pos h2, List.getElem?_eq_getElem (by omega)]
      rfl
    · rw [if_neg h2, List.getElem?_eq_none (by omega)]
  · simp only [h1, decide_false, cond_false, false_and, if_false]
theorem s_neq (a b : List UInt8) : (BK.str .neq).run P (.str a) (.str b) = some (.bool (!decide (a = b))) := by simp only [BK.run, strC, strB, beqBytes_dec]
end
end Go.Proofs.YthcgccnbhdociaaDoor.Am

namespace Go.Proofs.YthcgccnbhdociaaDoor.Am
open Go Go.RowKit
set_option linter.defProp false

/-! The lemmas of the walk, in bundles. -/
def wqA1 :=
  And.intro @k_nil <| And.intro @k_blk <| And.intro @k_seq <| And.intro @k_block <| And.intro @k_reg <| And.intro @k_skip <| And.intro @k_ret <| And.intro @k_exit <| And.intro @k_cret <| And.intro @k_cexit <| And.intro @k_cond <| And.intro @k_loop <| And.intro @k_draw <| And.intro @k_osnil <| And.intro @k_mv <| And.intro @kg_mv <| And.intro @k_pick <| And.intro @kg_pick <| And.intro @k_build <| And.intro @kg_build <| And.intro @k_ld1 <| And.intro @kg_ld1 <| And.intro @k_ldn <| And.intro @kg_ldn <| And.intro @k_nilck <| And.intro @kg_nilck <| And.intro @k_bin <| And.intro @kg_bin <| And.intro @k_un <| And.intro @kg_un <| And.intro @k_fn <| And.intro @kg_fn <| And.intro @k_ifc <| And.intro @kg_ifc <| And.intro @k_slstr <| And.intro @kg_slstr <| And.intro @k_sl <| And.intro @kg_sl <| And.intro @k_fa <| @kg_fa
def wqA2 :=
  And.intro @k_fld1 <| And.intro @kg_fld1 <| And.intro @k_fldn <| And.intro @kg_fldn <| And.intro @k_ia <| And.intro @kg_ia <| And.intro @k_iaa <| And.intro @kg_iaa <| And.intro @k_ixs <| And.intro @kg_ixs <| And.intro @k_ix <| And.intro @kg_ix <| And.intro @k_look <| And.intro @kg_look <| And.intro @k_ext <| And.intro @kg_ext <| And.intro @k_mn <| And.intro @kg_mn <| And.intro @k_mx <| And.intro @kg_mx <| And.intro @k_cvint <| And.intro @kg_cvint <| And.intro @k_lenslice <| And.intro @kg_lenslice <| And.intro @k_lenstr <| And.intro @kg_lenstr <| And.intro @k_lenarr <| And.intro @kg_lenarr <| And.intro @k_new <| And.intro @kg_new <| And.intro @k_box <| And.intro @kg_box <| And.intro @k_bsl <| And.intro @kg_bsl <| And.intro @k_st <| And.intro @kg_st <| And.intro @k_mksl <| And.intro @kg_mksl <| And.intro @k_upd <| @kg_upd
def wqA3 :=
  And.intro @k_mkm <| And.intro @kg_mkm <| And.intro @k_rngs <| And.intro @kg_rngs <| And.intro @k_nxt <| And.intro @kg_nxt <| And.intro @k_app <| And.intro @kg_app <| And.intro @k_copy <| And.intro @kg_copy <| And.intro @k_lenmap <| And.intro @kg_lenmap <| And.intro @k_cvbytes <| And.intro @kg_cvbytes <| And.intro @k_cvstr <| And.intro @kg_cvstr <| And.intro @k_cvoth <| And.intro @kg_cvoth <| And.intro @kg_call <| And.intro @kg_callv <| And.intro @k_call <| And.intro @k_callv <| @k_dnil
def wqB1 :=
  And.intro @sv_some <| And.intro @so_val <| And.intro @condK_tt <| And.intro @condK_ff <| And.intro @callv_func <| And.intro @rngO_str <| And.intro @bslO_some <| And.intro @boxO_true <| And.intro @orH_some <| And.intro @fill_nil <| And.intro @fill_if <| And.intro @buildO_some <| And.intro @evPs_nil <| And.intro @evPs_cons <| And.intro @pickB_bool <| And.intro @fa_ptr <| And.intro @on_tup <| And.intro @on_agg <| And.intro @lens_sl <| And.intro @lens_g <| And.intro @lens_t <| And.intro @lens_nil <| And.intro @lenst_str <| And.intro @ia_sl <| And.intro @ia_g <| And.intro @cvi_int <| And.intro @ev_t <| And.intro @ev_c <| And.intro @trim_get <| And.intro @set_get <| And.intro @set_no <| And.intro @ofL_hd <| And.intro @ofL_tl <| And.intro @opt_true <| And.intro @opt_false <| And.intro @vif_true <| And.intro @vif_false <| And.intro @bif_bool <| And.intro @bif_int <| @bif_optn
def wqB2 :=
  And.intro @bif_or <| And.intro @bif_and <| And.intro @Imp_T <| And.intro @Imp_true <| And.intro @Imp_false <| And.intro @took_bool <| And.intro @took_tuple <| And.intro @took_opt <| And.intro @isGate_bool <| And.intro @isGate_tuple <| And.intro @isGate_opt <| And.intro @k_add <| And.intro @k_sub <| And.intro @k_mul <| And.intro @k_eql <| And.intro @k_neq <| And.intro @k_lss <| And.intro @k_leq <| And.intro @k_gtr <| And.intro @k_geq <| And.intro @k_beql <| And.intro @k_bneq <| And.intro @u_not <| And.intro @u_neg <| And.intro @load1_ptr <| And.intro @loadn_ptr <| And.intro @ld1_ofL <| And.intro @ld1_ro <| And.intro @ldn_ofL <| And.intro @ldn_ro <| And.intro @store_ptr <| And.intro @lay_if <| And.intro @get_new_self <| And.intro @get_new <| And.intro @get_set <| And.intro @pa_eq <| And.intro @next_new <| And.intro @next_set <| And.intro @newCells_if <| @cells_bool
def wqB3 :=
  And.intro @one_bool <| And.intro @good_bool <| And.intro @cells_int <| And.intro @one_int <| And.intro @good_int <| And.intro @cells_str <| And.intro @one_str <| And.intro @good_str <| And.intro @cells_nilptr <| And.intro @one_nilptr <| And.intro @good_nilptr <| And.intro @cells_ptr <| And.intro @one_ptr <| And.intro @good_ptr <| And.intro @cells_slice <| And.intro @one_slice <| And.intro @good_slice <| And.intro @cells_gslice <| And.intro @one_gslice <| And.intro @good_gslice <| And.intro @cells_tslice <| And.intro @one_tslice <| And.intro @good_tslice <| And.intro @cells_nilslice <| And.intro @one_nilslice <| And.intro @good_nilslice <| And.intro @cells_nilmap <| And.intro @one_nilmap <| And.intro @good_nilmap <| And.intro @cells_map <| And.intro @one_map <| And.intro @good_map <| And.intro @cells_func <| And.intro @one_func <| And.intro @good_func <| And.intro @cells_nilfunc <| And.intro @one_nilfunc <| And.intro @good_nilfunc <| And.intro @cells_iface <| @one_iface
def wqB4 :=
  And.intro @good_iface <| And.intro @cells_nilIface <| And.intro @one_nilIface <| And.intro @good_nilIface <| And.intro @cells_agg <| And.intro @good_agg <| And.intro @good_tuple <| And.intro @leave_normal <| And.intro @leave_ret <| And.intro @leave_exit <| And.intro @beq_true <| And.intro @beq_false <| And.intro @Bool.not_true <| And.intro @Bool.not_false <| And.intro @Bool.true_and <| And.intro @Bool.and_true <| And.intro @Bool.false_and <| And.intro @Bool.and_false <| And.intro @Bool.not_not <| And.intro @V.bool.injEq <| And.intro @Nat.zero_add <| And.intro @Nat.add_zero <| And.intro @then_normal <| And.intro @then_ret <| And.intro @then_exit <| And.intro @Bool.true_eq_false <| And.intro @Bool.false_eq_true <| And.intro @toN_int <| And.intro @pushD_none <| And.intro @pushD_some <| And.intro @asks_nil <| And.intro @asks_cons <| And.intro @ask_nil <| And.intro @ask_cons <| And.intro @heapF_o <| And.intro @heapO_some <| And.intro @heapO_none <| And.intro @ask_ld1 <| And.intro @ask_ldn <| @askg_ld1
def wqB5 :=
  And.intro @askg_ldn <| And.intro @nx1 <| And.intro @xn1 <| And.intro @nx2 <| And.intro @xn2 <| And.intro @nx3 <| And.intro @xn3 <| And.intro @nx4 <| And.intro @xn4 <| And.intro @nx5 <| And.intro @xn5 <| And.intro @nx6 <| And.intro @xn6 <| And.intro @nx7 <| And.intro @xn7 <| And.intro @nx8 <| And.intro @xn8 <| And.intro @gateK_tt <| And.intro @gateK_ff <| And.intro @gateK_tf <| And.intro @gateK_ft <| And.intro @gateK_tuple <| And.intro @Bool.or_false <| And.intro @Bool.false_or <| And.intro @Bool.or_true <| And.intro @Bool.true_or <| And.intro @nil_ptr <| And.intro @mn_two <| And.intro @mx_two <| And.intro @opt_no <| And.intro @opt_so <| And.intro @add11 <| And.intro @add21 <| And.intro @add31 <| And.intro @add41 <| And.intro @add51 <| And.intro @add61 <| And.intro @add71 <| And.intro @add81 <| @add91
def wqB6 :=
  And.intro @add101 <| And.intro @add111 <| And.intro @add121 <| And.intro @add131 <| And.intro @add141 <| And.intro @add151 <| And.intro @sl_hi <| And.intro @sl_lo <| And.intro @sl_two <| And.intro @sl_all <| And.intro @s_eql <| And.intro @s_neq <| And.intro @s_add <| @s_ix
end Go.Proofs.YthcgccnbhdociaaDoor.Am

namespace Go.Proofs.YthcgccnbhdociaaDoor.Am
variable [Lay]
set_option linter.unusedSectionVars false
set_option linter.unusedVariables false
set_option linter.unusedSimpArgs false
open Go Go.RowKit

/-! One element more; bytes and texts. -/
theorem app_one {B : Nat} {h : Heap} {size : Nat} {s : V} {n : Nat} {us cs : List V} (hsz : 1 ≤ size) (H1 : SlO B h size s n us) (hB : B ≤ h.next) (hlen : (n + 1) * size ≤ top) (hcs : cs.length = size) (ho : ones cs = true) :
    ∃ v h', appV size s (.slice (pa h.next) 0 1 1) (h.new (.ofL cs 0 false)) = .val v h' ∧ SlO B h' size v (n + 1) (us ++ cs) ∧ Mod s.blk h h' ∧ h.next + 1 ≤ h'.next ∧ ∀ b, v.blk b → s.blk b ∨ h.next < unPa b := by
  have hx : Ext h (h.new (.ofL cs 0 false)) := (Ext.refl h).new _
  have hv : SlV (h.new (.ofL cs 0 false)) size (.slice (pa h.next) 0 1 1) 1 cs := by
    refine ⟨by rw [hcs]; omega, rfl, old_lt (by rw [next_new]; omega), cs, .inr ⟨0, false, by rw [get_new_self]⟩, by omega, by simp⟩
  obtain ⟨v, h', q1, q2, q3, q4⟩ := app_own hsz (H1.ext hx) hv (by rw [next_new]; omega) hlen ho
  refine ⟨v, h', q1, q2, (hx.mod _).trans q3, by have := q3.next; rw [next_new] at this; exact this, fun b hb => ?_⟩
  rcases q4 b hb with q | q
  · exact .inl q
  · exact .inr (by rw [next_new] at q; omega)

theorem uint8s_bytes : ∀ l : List UInt8, uint8s (bytesV l) = some l
  | [] => rfl
  | c :: l => by
    have ih := uint8s_bytes l
    simp only [bytesV, uint8s, ih]
    simp
theorem bytesV_len : ∀ l : List UInt8, (bytesV l).length = l.length
  | [] => rfl
  | c :: l => by simp only [bytesV, List.length_cons, bytesV_len l]
theorem bytesV_append : ∀ l m : List UInt8, bytesV (l ++ m) = bytesV l ++ bytesV m
  | [], m => rfl
  | c :: l, m => by simp only [bytesV, List.cons_append, bytesV_append l m]
theorem bytesV_ones : ∀ l : List UInt8, ones (bytesV l) = true
  | [] => rfl
  | c :: l => by
    have ih := bytesV_ones l
    simp only [bytesV, ones, ih, one_int, Bool.and_true]
theorem strAt_of {h : Heap} {b : Pa} {us : List V} {esz : Nat} {st : Bool} {off : Nat} {l : List UInt8} (hg : h.get b = .ofL us esz st) (hl : off + l.length ≤ us.length) (hu : (us.drop off).take l.length = bytesV l) : strAt b off l.length h = .val (.str l) h := by
  unfold strAt
  rw [hg]
  simp only [Blk.see, Blk.ofL]
  rw [show Nat.ble (off + l.length) us.length = true from by rw [Nat.ble_eq]; exact hl]
  simp only [cond_true]
  rw [gets_eq us l.length off hl, hu, uint8s_bytes]
theorem convStr_own {B : Nat} {h : Heap} {v : V} {n : Nat} {l : List UInt8} (H : SlO B h 1 v n (bytesV l)) : convStr.run v h = .val (.str l) h := by
  have h1 := H.1
  rw [bytesV_len, Nat.mul_one] at h1
  have h2 := H.2
  cases v <;> simp only at h2 <;> try (exact h2.elim)
  case nilslice =>
    subst h2
    rw [List.length_eq_zero_iff] at h1
    subst h1
    rfl
  case slice =>
    obtain ⟨q1, q2, q3, q4, q5, us, esz, st, q6, q7, q8⟩ := h2
    rw [bytesV_len] at q8
    simp only [convStr]
    rw [q1, ← h1]
    exact strAt_of q6 (by omega) q8
  case gslice =>
    obtain ⟨q1, q2, q3, q4, q5, us, st, q6, q7, q8⟩ := h2
    rw [bytesV_len] at q8 q7
    simp only [convStr]
    rw [q1, q4, ← h1]
    exact strAt_of q6 (by omega) (by simpa using q8)
noncomputable def appS (size : Nat) (s : V) (m : Nat) (vs : List V) (h : Heap) : OR := match s with
  | .nilslice => appNil size m vs h
  | .slice b off len cap => appKnown size b off len cap m vs h
  | .gslice b off len idx => appGrown size b off len idx m vs h
  | _ => .fail
/-- append, of anything whose cells are known -/
theorem app_gen {B : Nat} {h : Heap} {size : Nat} {s x : V} {n m : Nat} {us vs : List V} (hsz : 1 ≤ size) (H1 : SlO B h size s n us) (hl2 : vs.length = m * size) (hAv : appV size s x h = appS size s m vs h) (hB : B ≤ h.next) (hlen : (n + m) * size ≤ top) (ho : ones vs = true) :
    ∃ v h', appV size s x h = .val v h' ∧ SlO B h' size v (n + m) (us ++ vs) ∧ Mod s.blk h h' ∧ ∀ b, v.blk b → s.blk b ∨ h.next ≤ unPa b := by
  have hnm : n + m ≤ top := Nat.le_trans (Nat.le_mul_of_pos_right _ hsz) hlen
  have hl1 := H1.1
  have hll : (us ++ vs).length = (n + m) * size := by rw [List.length_append, hl1, hl2, Nat.add_mul]
  rw [hAv]
  unfold appS
  have h2 := H1.2
  cases s <;> simp only at h2 ⊢ <;> try (exact h2.elim)
  case nilslice =>
    subst h2
    have : us = [] := List.eq_nil_of_length_eq_zero (by omega)
    subst this
    unfold appNil
    by_cases hm : m = 0
    · subst hm
      have : vs = [] := List.eq_nil_of_length_eq_zero (by omega)
      subst this
      exact ⟨.nilslice, h, rfl, ⟨by simp, rfl⟩, Mod.refl _ _, fun b hb => .inl hb⟩
    · rw [show Nat.beq m 0 = false from by rw [← Bool.not_eq_true, Nat.beq_eq]; exact hm]
      simp only [cond_false]
      rw [newGrow_eq (by rw [hl2]; simpa using hlen) hsz]
      refine ⟨_, _, rfl, ?_, (Mod.refl _ _).new _, fun b hb => .inr (by rw [show b = pa h.next from hb, unPa_pa]; exact Nat.le_refl _)⟩
      have := SlO.grown (B := B) (h := h) (size := size) (vs := vs) (n := m) (st := false) hl2 hB
      simpa using this
  case slice b off len cap =>
    obtain ⟨rfl, q2, q3, q4, q5, us0, esz, st, q6, q7, q8⟩ := h2
    unfold appKnown
    by_cases hc : len + m ≤ cap
    · rw [show Nat.ble (len + m) cap = true from by rw [Nat.ble_eq]; exact hc]
      simp only [cond_true]
      have hroom : off + len * size + vs.length ≤ us0.length := by
        have := Nat.mul_le_mul_right size hc
        rw [Nat.add_mul] at this
        rw [hl2]
        omega
      rw [Own.lay (vs := us0) (esz := esz) (st := st) q6 hroom ho]
      refine ⟨_, _, rfl, ⟨hll, rfl, q2, q3, hc, q5, _, esz, st, get_set _ _ _ |>.trans (if_pos rfl), ?_, ?_⟩, (Mod.refl (V.blk (.slice b off len cap)) h).set (fun _ => rfl) _, fun b' hb => .inl hb⟩
      · rw [splice_length _ _ _ hroom]; exact q7
      · rw [List.length_append]
        unfold splice
        have hlo : off + us.length ≤ us0.length := by rw [hl1]; omega
        have e1 : us0.take (off + len * size) = us0.take off ++ us := by
          rw [← hl1, List.take_add, q8]
        rw [e1, List.append_assoc, List.append_assoc, List.drop_append, List.drop_eq_nil_of_le (by rw [List.length_take]; omega), List.nil_append]
        rw [show off - (us0.take off).length = 0 from by rw [List.length_take]; omega, List.drop_zero]
        rw [← List.append_assoc, List.take_left' (by rw [List.length_append])]
    · rw [show Nat.ble (len + m) cap = false from by rw [← Bool.not_eq_true, Nat.ble_eq]; exact hc]
      simp only [cond_false]
      rw [show (Nat.ble (len + m) top && Nat.ble cap top) = true from by simp only [Bool.and_eq_true, Nat.ble_eq]; exact ⟨hnm, q5⟩]
      simp only [cond_true]
      have hat : AtL h b off us := ⟨q3, us0, .inr ⟨esz, st, q6⟩, by rw [hl1]; have := Nat.mul_le_mul_right size q4; omega, q8⟩
      rw [srcAt_of hat hl1]
      simp only
      rw [newGrow_eq (by rw [hll]; exact hlen) hsz]
      exact ⟨_, _, rfl, SlO.grown hll hB, (Mod.refl _ _).new _, fun b hb => .inr (by rw [show b = pa h.next from hb, unPa_pa]; exact Nat.le_refl _)⟩
  case gslice b off len idx =>
    obtain ⟨rfl, q2, q3, rfl, rfl, us0, st, q6, q7, q8⟩ := h2
    unfold appGrown
    by_cases hm : m = 0
    · subst hm
      have : vs = [] := List.eq_nil_of_length_eq_zero (by omega)
      subst this
      exact ⟨_, h, rfl, ⟨hll, rfl, q2, q3, rfl, rfl, us0, st, q6, by simpa using q7, by simpa using q8⟩, Mod.refl _ _, fun b hb => .inl hb⟩
    · rw [show Nat.beq m 0 = false from by rw [← Bool.not_eq_true, Nat.beq_eq]; exact hm]
      simp only [cond_false]
      rw [q6]
      simp only [Blk.ofL, Blk.on]
      rw [show (Nat.beq size size && (Nat.ble (len + m) top && ones vs) && Nat.beq 0 (0 * size)) = true from by
        simp only [Bool.and_eq_true, Nat.beq_eq, Nat.ble_eq]
        exact ⟨⟨trivial, hnm, ho⟩, by omega⟩]
      simp only [cond_true]
      have hat : AtL h b 0 us := ⟨q3, us0, .inr ⟨size, st, q6⟩, by omega, by simpa using q8⟩
      rw [srcAt_of hat hl1]
      simp only
      rw [newGrow_eq (by rw [hll]; exact hlen) hsz]
      exact ⟨_, _, rfl, SlO.grown (h := h.set b .dead) hll hB, ((Mod.refl (V.blk (.gslice b 0 len 0)) h).set (fun _ => rfl) _).new _, fun b' hb => .inr (by rw [show b' = pa h.next from hb, unPa_pa]; exact Nat.le_refl _)⟩


theorem app_str {B : Nat} {h : Heap} {s : V} {n : Nat} {us : List V} (t : List UInt8) (H1 : SlO B h 1 s n us) (hB : B ≤ h.next) (hlen : n + t.length ≤ top) :
    ∃ v h', appV 1 s (.str t) h = .val v h' ∧ SlO B h' 1 v (n + t.length) (us ++ bytesV t) ∧ Mod s.blk h h' ∧ ∀ b, v.blk b → s.blk b ∨ h.next ≤ unPa b := by
  refine app_gen (by omega) H1 (by rw [bytesV_len, Nat.mul_one]) ?_ hB (by omega) (bytesV_ones t)
  have hn : Nat.ble t.length top = true := by rw [Nat.ble_eq]; omega
  have hsrc : srcCells h 1 (.str t) t.length = some (bytesV t) := by
    simp only [srcCells]
    rw [show Nat.ble t.length t.length = true from by rw [Nat.ble_eq]; exact Nat.le_refl _, List.take_length]
    rfl
  unfold appV appS
  simp only [lenV]
  rw [hsrc]
  simp only [hn]
  rfl
theorem Mod.self {b : Pa} {h h' : Heap} (e : Mod (fun q => q = b) h h') (k : Blk) : Mod (fun q => q = b) h (h'.set b k) := e.set (fun _ => rfl) k
theorem Mod.fresh {M : Pa → Prop} {h h' : Heap} (e : Mod M h h') {i : Nat} (hi : h.next ≤ i) (k : Blk) : Mod M h (h'.set (pa i) k) :=
  e.set (fun q => absurd (show unPa (pa i) < h.next from q) (by rw [unPa_pa]; omega)) k
theorem Mod.then_new {M N : Pa → Prop} {h h2 h3 : Heap} (e : Mod M h h2) (q : Mod N h2 h3) (hn : ∀ b, N b → h.next ≤ unPa b) : Mod M h h3 :=
  ⟨Nat.le_trans e.next q.next, fun b ho hb => by
    rw [q.get b (e.old ho) (fun k => absurd (show unPa b < h.next from ho) (by have := hn b k; omega)), e.get b ho hb]⟩
end Go.Proofs.YthcgccnbhdociaaDoor.Am

namespace Go.Proofs.YthcgccnbhdociaaDoor.Am
variable [Lay]
set_option linter.unusedSectionVars false
set_option linter.defProp false
open Go Go.RowKit

/-! The bundles, in three. -/
def wA := And.intro @wqA1 <| And.intro @wqA2 @wqA3
def wB := And.intro @wqB1 <| And.intro @wqB2 <| And.intro @wqB3 <| And.intro @wqB4 <| And.intro @wqB5 @wqB6
def wZ := And.intro @Option.isSome_some.{0} <| And.intro @Option.getD_some.{0} <| And.intro @if_true.{1} <| And.intro @if_false.{1} <| And.intro @true_and <| And.intro @and_true <| And.intro @List.getElem?_cons_zero.{0} <| And.intro @List.getElem?_cons_succ.{0} <| And.intro @List.length_cons.{0} <| And.intro @List.length_nil.{0} <|
  And.intro @List.drop_zero.{0} <| And.intro @List.drop_succ_cons.{0} <| And.intro @List.take_succ_cons.{0} <| And.intro @List.take_zero.{0} <| And.intro @List.cons_append.{0} <| And.intro @List.nil_append.{0} <| And.intro @Option.some.injEq.{0} <| And.intro @exists_eq_left'.{1} <| And.intro @List.cons.injEq.{0} <|
  And.intro @Nat.succ_ne_zero <| And.intro @imp_T <| And.intro @imp_F <| And.intro @List.getElem?_nil.{0} <| And.intro @decide_true <| And.intro @decide_false <| And.intro @eq_self.{1} <| And.intro @not_true_eq_false <| And.intro @not_false_eq_true <| And.intro @ite_true.{1} @ite_false.{1}
end Go.Proofs.YthcgccnbhdociaaDoor.Am
