/- The abstract machine, part K4 (a verified interpreter of the model's code: plain definitions and lemmas, no condition). -/
import Derived.Test.YtkjifhoiiciblaaK3
namespace Go.Proofs.Ytkjifhoiiciblaa.Am
open Go Go.RowKit

section
variable {P : Program}

/-! Types. -/
theorem tiOf_spec {t : TypeId} {ti : TI} (h : tiOf P t = some ti) : ∃ i, P.info? t = some i ∧ P.underlying t = some ti.und ∧ ti.size = i.size ∧ ti.bytes = i.bytes ∧
    ti.agg = isAggD ti.und ∧ ti.zero = i.zero.map ofVal := by
  unfold tiOf at h
  cases hi : P.info? t with
  | none => rw [hi] at h; cases h
  | some i =>
    cases hu : P.underlying t with
    | none => rw [hi, hu] at h; cases h
    | some d =>
      rw [hi, hu] at h
      cases h
      exact ⟨i, rfl, rfl, rfl, rfl, rfl, rfl⟩

theorem run_typeInfo_some {t : TypeId} {i : TypeInfo} (h : P.info? t = some i) (w : World) : (typeInfo t).run P w = .ok i w := by simp [typeInfo, h]
theorem run_underlying_some {t : TypeId} {d : TypeDesc} (h : P.underlying t = some d) (w : World) : (underlying t).run P w = .ok d w := by simp [underlying, h]

theorem run_und {t : TypeId} {ti : TI} (h : tiOf P t = some ti) (w : World) : (underlying t).run P w = .ok ti.und w := by
  obtain ⟨i, _, h2, _⟩ := tiOf_spec h
  exact run_underlying_some h2 w

theorem run_size {t : TypeId} {ti : TI} (h : tiOf P t = some ti) (w : World) : (sizeOf t).run P w = .ok ti.size w := by
  obtain ⟨i, h1, _, h3, _⟩ := tiOf_spec h
  simp [sizeOf, run_typeInfo_some h1, h3]

theorem run_bytes {t : TypeId} {ti : TI} (h : tiOf P t = some ti) (w : World) : ∃ i, (typeInfo t).run P w = .ok i w ∧ i.bytes = ti.bytes := by
  obtain ⟨i, h1, _, _, h4, _⟩ := tiOf_spec h
  exact ⟨i, run_typeInfo_some h1 w, h4.symm⟩

theorem run_isAgg {t : TypeId} {ti : TI} (h : tiOf P t = some ti) (w : World) : (isAgg t).run P w = .ok ti.agg w := by
  obtain ⟨i, _, h2, _, _, h5, _⟩ := tiOf_spec h
  simp only [isAgg, Sem.run_bind, run_underlying_some h2, Result.andThen_ok]
  rw [h5]
  cases ti.und <;> rfl

theorem run_zero {t : TypeId} {ti : TI} {z : V} (h : tiOf P t = some ti) (hz : ti.zero = some z) (E : Env) (w : World) : ∃ x, (zeroValue t).run P w = .ok x w ∧ Rel E z x ∧ z = ofVal x := by
  obtain ⟨i, h1, _, _, _, _, h6⟩ := tiOf_spec h
  rw [hz] at h6
  cases hx : i.zero with
  | none => rw [hx] at h6; cases h6
  | some x =>
    rw [hx] at h6
    simp only [Option.map, Option.some.injEq] at h6
    refine ⟨x, ?_, ?_, h6⟩
    · simp only [zeroValue, Sem.run_bind, run_typeInfo_some h1, Result.andThen_ok, hx]; rfl
    · rw [h6]; exact ofVal_rel E x

/-! Reading cells. -/
theorem add_eq (b off i : Nat) : (⟨b, off, none⟩ : Addr).add i = ⟨b, off + i, none⟩ := by
  unfold Addr.add
  by_cases h : i = 0 <;> simp [h]

theorem cell_eq {w : World} {b : Nat} {c : Array Value} {el : TypeId} {fz : Nat × Nat} (hh : w.heap[b]? = some (.cells c el fz)) (off : Nat) : w.cell? ⟨b, off, none⟩ = c[off]? := by
  simp [World.cell?, hh]

theorem run_load_cell {w : World} {b off : Nat} {c : Array Value} {el : TypeId} {fz : Nat × Nat} {y : Value} (hh : w.heap[b]? = some (.cells c el fz)) (hy : c[off]? = some y) :
    (load ⟨b, off, none⟩).run P w = .ok y w := by
  rw [run_load, cell_eq hh, hy]

theorem run_loadCellsFrom {w : World} {b off : Nat} {c : Array Value} {el : TypeId} {fz : Nat × Nat} (hh : w.heap[b]? = some (.cells c el fz)) :
    ∀ (n i : Nat) (acc : Array Value), off + i + n ≤ c.size → (loadCellsFrom ⟨b, off, none⟩ i n acc).run P w = .ok (acc ++ ((c.toList.drop (off + i)).take n).toArray) w := by
  intro n
  induction n with
  | zero => intro i acc _; simp [loadCellsFrom]
  | succ n ih =>
    intro i acc h
    have hlt : off + i < c.size := by omega
    have hy : c[off + i]? = some c[off + i] := Array.getElem?_eq_getElem hlt
    simp only [loadCellsFrom, Sem.run_bind, add_eq, run_load_cell hh hy, Result.andThen_ok]
    rw [ih (i + 1) _ (by omega)]
    congr 1
    have hd : c.toList.drop (off + i) = c[off + i] :: c.toList.drop (off + (i + 1)) := by
      rw [List.drop_eq_getElem_cons (by simpa using hlt)]
      simp [Nat.add_assoc]
    rw [hd, List.take_succ_cons]
    simp

theorem run_loadCells {w : World} {b off n : Nat} {c : Array Value} {el : TypeId} {fz : Nat × Nat} (hh : w.heap[b]? = some (.cells c el fz)) (h : off + n ≤ c.size) :
    (loadCells ⟨b, off, none⟩ n).run P w = .ok ((c.toList.drop off).take n).toArray w := by
  have := run_loadCellsFrom (P := P) (off := off) hh n 0 #[] (by omega)
  simpa [loadCells] using this

theorem gets_rel {E : Env} {N base : Nat} {cs : T V} {c : Array Value} (hc : CellsOk E N base cs c) : ∀ (n off : Nat), off + n ≤ N →
    RelL E (gets cs off n) ((c.toList.drop (base + off)).take n) := by
  intro n
  induction n with
  | zero => intro off _; simp [gets, RelL]
  | succ n ih =>
    intro off h
    have hlt : base + off < c.size := by have := hc.1; omega
    have hd : c.toList.drop (base + off) = c[base + off] :: c.toList.drop (base + (off + 1)) := by
      rw [List.drop_eq_getElem_cons (by simpa using hlt)]
      simp [Nat.add_assoc]
    rw [hd, List.take_succ_cons]
    simp only [gets, RelL]
    exact ⟨_, _, rfl, hc.2 off _ (by omega) (Array.getElem?_eq_getElem hlt), ih (off + 1) (by omega)⟩

/-! Writing cells. -/
def layC (c : Array Value) : Nat → List Value → Array Value
  | _, [] => c
  | off, v :: vs => layC (c.setIfInBounds off v) (off + 1) vs

theorem layC_size : ∀ (vs : List Value) (c : Array Value) (off : Nat), (layC c off vs).size = c.size
  | [], c, off => rfl
  | v :: vs, c, off => by simp [layC, layC_size vs]

theorem layC_get : ∀ (vs : List Value) (c : Array Value) (off j : Nat), off + vs.length ≤ c.size →
    (layC c off vs)[j]? = if off ≤ j ∧ j < off + vs.length then vs[j - off]? else c[j]?
  | [], c, off, j, _ => by
    have : ¬ (off ≤ j ∧ j < off) := by omega
    simp [layC, this]
  | v :: vs, c, off, j, h => by
    simp only [List.length_cons] at h ⊢
    rw [layC, layC_get vs _ _ _ (by simp; omega)]
    by_cases h1 : off + 1 ≤ j ∧ j < off + 1 + vs.length
    · rw [if_pos h1, if_pos (by omega)]
      have : j - off = (j - (off + 1)) + 1 := by omega
      rw [this, List.getElem?_cons_succ]
    · rw [if_neg h1]
      by_cases h2 : j = off
      · subst h2
        rw [if_pos (by omega)]
        simp [Array.getElem?_setIfInBounds]
        omega
      · rw [if_neg (by omega)]
        simp [Array.getElem?_setIfInBounds]
        omega

def withC (w : World) (b : Nat) (c : Array Value) (el : TypeId) (fz : Nat × Nat) : World := { w with heap := w.heap.setIfInBounds b (.cells c el fz) }

theorem withC_same {w : World} {b : Nat} {c : Array Value} {el : TypeId} {fz : Nat × Nat} (hh : w.heap[b]? = some (.cells c el fz)) : withC w b c el fz = w := by
  have hlt := (Array.getElem?_eq_some_iff.1 hh).1
  have : w.heap.setIfInBounds b (.cells c el fz) = w.heap := by
    apply Array.ext_getElem?
    intro i
    rw [Array.getElem?_setIfInBounds]
    by_cases hi : b = i
    · subst hi; rw [if_pos rfl, if_pos hlt, hh]
    · rw [if_neg hi]
  unfold withC
  rw [this]

theorem withC_heap {w : World} {b : Nat} (hlt : b < w.heap.size) (c : Array Value) (el : TypeId) (fz : Nat × Nat) : (withC w b c el fz).heap[b]? = some (.cells c el fz) := by
  simp [withC, hlt]

theorem withC_other {w : World} {b j : Nat} (c : Array Value) (el : TypeId) (fz : Nat × Nat) (h : j ≠ b) : (withC w b c el fz).heap[j]? = w.heap[j]? := by
  simp only [withC, Array.getElem?_setIfInBounds]
  rw [if_neg (fun e => h e.symm)]

theorem withC_size (w : World) (b : Nat) (c : Array Value) (el : TypeId) (fz : Nat × Nat) : (withC w b c el fz).heap.size = w.heap.size := by simp [withC]

theorem withC_setCell {w : World} {b : Nat} (hlt : b < w.heap.size) (c : Array Value) (el : TypeId) (fz : Nat × Nat) (off : Nat) (v : Value) :
    (withC w b c el fz).setCell ⟨b, off, none⟩ v = withC w b (c.setIfInBounds off v) el fz := by
  unfold World.setCell withC
  congr 1
  apply Array.ext_getElem?
  intro i
  rw [Array.getElem?_modify]
  simp only [Array.getElem?_setIfInBounds]
  by_cases hi : b = i
  · subst hi; simp [hlt]
  · simp [hi]

theorem run_storeCells {w : World} {b : Nat} (hlt : b < w.heap.size) (el : TypeId) (fz : Nat × Nat) (off : Nat) :
    ∀ (vs : List Value) (c : Array Value) (i : Nat), (∀ v ∈ vs, v.oneCell' = true) → off + i + vs.length ≤ c.size → (c.size ≤ fz.1 ∨ fz.2 ≤ fz.1) →
    (storeCells ⟨b, off, none⟩ vs i).run P (withC w b c el fz) = .ok () (withC w b (layC c (off + i) vs) el fz)
  | [], c, i, _, _, _ => by simp [storeCells, layC]
  | v :: vs, c, i, h1, h2, h3 => by
    simp only [List.length_cons] at h2
    have hlt2 : off + i < c.size := by omega
    have hcell : (withC w b c el fz).cell? ⟨b, off + i, none⟩ = some c[off + i] := by
      rw [cell_eq (withC_heap hlt c el fz)]; exact Array.getElem?_eq_getElem hlt2
    have hfz : (withC w b c el fz).frozen? ⟨b, off + i, none⟩ = false := by
      obtain ⟨lo, hi⟩ := fz
      simp only [World.frozen?, withC_heap hlt]
      simp only [Bool.and_eq_false_iff, decide_eq_false_iff_not]
      rcases h3 with h3 | h3
      · left; simp only at h3; omega
      · simp only at h3
        by_cases hx : lo ≤ off + i
        · right; omega
        · left; exact hx
    simp only [storeCells, Sem.run_bind, add_eq]
    rw [run_store _ _ _ _ _ (h1 v (by simp)), hcell]
    simp only [hfz, Bool.false_eq_true, if_false, Result.andThen_ok]
    rw [withC_setCell hlt, run_storeCells hlt el fz off vs _ (i + 1) (fun u hu => h1 u (by simp [hu])) (by simp; omega) (by simpa using h3)]
    rfl

theorem puts_get : ∀ (vs : List V) (cs : T V) (off i : Nat), off + vs.length ≤ top + 1 → i ≤ top →
    T.get .bad (pa i) (puts cs off vs) = if off ≤ i ∧ i < off + vs.length then (vs[i - off]?).getD .bad else T.get .bad (pa i) cs
  | [], cs, off, i, _, _ => by
    have : ¬ (off ≤ i ∧ i < off) := by omega
    simp [puts, this]
  | v :: vs, cs, off, i, h, hi => by
    simp only [List.length_cons] at h ⊢
    rw [puts, puts_get vs _ _ _ (by omega) hi]
    by_cases h1 : off + 1 ≤ i ∧ i < off + 1 + vs.length
    · rw [if_pos h1, if_pos (by omega)]
      have : i - off = (i - (off + 1)) + 1 := by omega
      rw [this, List.getElem?_cons_succ]
    · rw [if_neg h1, T.get_put]
      by_cases h2 : i = off
      · subst h2
        rw [if_pos rfl, if_pos (by omega)]
        simp
      · rw [if_neg (fun e => h2 (pa_inj (by omega) hi e).symm), if_neg (by omega)]

theorem ones_mem {E : Env} : ∀ {vs : List V} {l : List Value}, ones vs = true → RelL E vs l → ∀ x ∈ l, x.oneCell' = true
  | [], l, _, h => by simp only [RelL] at h; subst h; simp
  | v :: vs, l, ho, h => by
    simp only [RelL] at h
    obtain ⟨y, ys, rfl, hy, h⟩ := h
    simp only [ones, Bool.and_eq_true] at ho
    intro x hx
    simp only [List.mem_cons] at hx
    rcases hx with rfl | hx
    · exact hy.one ho.1
    · exact ones_mem ho.2 h x hx

theorem CellsOk.lay {E : Env} {N base : Nat} {cs : T V} {c : Array Value} (hc : CellsOk E N base cs c) (hN : N ≤ top) {vs : List V} {l : List Value} (hl : RelL E vs l) {off : Nat} (ho : off + vs.length ≤ N) :
    CellsOk E N base (puts cs off vs) (layC c (base + off) l) := by
  have hlen := hl.length
  refine ⟨by rw [layC_size]; exact hc.1, fun i y hi hy => ?_⟩
  rw [puts_get _ _ _ _ (by omega) (by omega)]
  rw [layC_get _ _ _ _ (by have := hc.1; omega)] at hy
  by_cases h : off ≤ i ∧ i < off + vs.length
  · rw [if_pos h]
    rw [if_pos (by omega)] at hy
    have e : base + i - (base + off) = i - off := by omega
    rw [e] at hy
    have hlt : i - off < vs.length := by omega
    obtain ⟨y', hy', hr⟩ := hl.get (i - off) vs[i - off] (List.getElem?_eq_getElem hlt)
    rw [hy] at hy'; cases hy'
    rw [List.getElem?_eq_getElem hlt]
    exact hr
  · rw [if_neg h]
    rw [if_neg (by omega)] at hy
    exact hc.2 i y hi hy

/-- what lays cells over a block -/
theorem lay_sound {w0 : World} {E : Env} {h h' : Heap} {w : World} (s : Sim w0 E h w) {b : Pa} {off : Nat} {vs : List V} {l : List Value} (hl : RelL E vs l) (he : lay h b off vs = some h') {p : Pl} (hp : E b = some p) :
    ∃ w', (storeCells ⟨p.blk, p.base + off, none⟩ l).run P w = .ok () w' ∧ Sim w0 E h' w' := by
  unfold lay at he
  cases hg : h.get b with
  | dead => rw [hg] at he; cases he
  | view n cs => rw [hg] at he; cases he
  | iter st pos => rw [hg] at he; cases he
  | cells n cs esz st =>
    rw [hg] at he
    simp only [Blk.on] at he
    cases hc : (Nat.ble (off + vs.length) n && ones vs) with
    | false => rw [hc] at he; cases he
    | true =>
      rw [hc] at he
      simp only [cond_true, Option.some.injEq] at he
      subst he
      simp only [Bool.and_eq_true, Nat.ble_eq] at hc
      have hb := s.blk b
      rw [hg] at hb
      obtain ⟨hn, q, c, el, fz, h1, h2, h3, h4, h5, h6, h7⟩ := hb
      rw [hp] at h1; cases h1
      have hlt := (Array.getElem?_eq_some_iff.1 h3).1
      have hlen := hl.length
      have hrun := run_storeCells (P := P) hlt el fz (p.base + off) l c 0 (ones_mem hc.2 hl) (by have := h7.1; omega) h4
      rw [withC_same h3, Nat.add_zero] at hrun
      refine ⟨_, hrun, s.set (p := p) (by rw [hg]; rfl) hp h2 (by rw [withC_size]; exact Nat.le_refl _) (fun j hj => withC_other _ _ _ hj) rfl rfl rfl ?_⟩
      exact ⟨hn, p, _, el, fz, hp, h2, withC_heap hlt _ _ _, by rw [layC_size]; exact h4, h5, by rw [layC_size]; exact h6, h7.lay hn hl hc.1⟩
end
end Go.Proofs.Ytkjifhoiiciblaa.Am
