/- The abstract machine, part K5 (a verified interpreter of the model's code: plain definitions and lemmas, no condition). -/
import Derived.Test.YtkjifhoiiciblaaK4
namespace Go.Proofs.Ytkjifhoiiciblaa.Am
open Go Go.RowKit

section
variable {P : Program}

/-! Registers. -/
structure RegRel (E : Env) (nt : Nat) (r : Regs) (a : Act) : Prop where
  size : a.tmps.size = nt
  defers : a.defers = []
  reg : ∀ t, t ≤ top → Rel E (T.get .bad (pa t) r) (a.tmps.getD t undef)

theorem RegRel.mono {E E' : Env} (h : E.le E') {nt : Nat} {r : Regs} {a : Act} (k : RegRel E nt r a) : RegRel E' nt r a :=
  ⟨k.size, k.defers, fun t ht => Rel.mono h _ _ (k.reg t ht)⟩

theorem evC_sound {E : Env} {nt : Nat} {r : Regs} {a : Act} (k : RegRel E nt r a) (x : Operand) : Rel E ((evC x).run r) (a.eval x) := by
  cases x with
  | tmp t =>
    simp only [evC]
    cases hb : Nat.ble t top with
    | false => simp [evConst, Rel]
    | true => simp only [cond_true, evTmp, Act.eval]; exact k.reg t (Nat.le_of_ble_eq_true hb)
  | const v => exact ofVal_rel E v
  | global g => simp [evC, evConst, Rel]
  | func f => simp only [evC, evConst, Act.eval, Rel]; exact ⟨#[], rfl, rfl⟩

theorem evsC_sound {E : Env} {nt : Nat} {r : Regs} {a : Act} (k : RegRel E nt r a) : ∀ l : List Operand, RelL E ((evsC l).run r) (l.map a.eval)
  | [] => rfl
  | x :: l => by
    simp only [evsC, List.map, RelL]
    exact ⟨_, _, rfl, evC_sound k x, evsC_sound k l⟩

theorem RegRel.put {E : Env} {nt : Nat} {r : Regs} {a : Act} (k : RegRel E nt r a) {d : Option Nat} (hd : dstFine nt d = true) {v : V} {x : Value} (hv : Rel E v x) :
    RegRel E nt ((putC d).run r v) (a.put d x) := by
  cases d with
  | none => exact k
  | some d =>
    simp only [dstFine, Bool.and_eq_true, Nat.blt_eq, Nat.ble_eq] at hd
    refine ⟨by simp [Act.put, k.size], k.defers, fun t ht => ?_⟩
    simp only [putC, Act.put]
    rw [T.get_put]
    by_cases h : d = t
    · subst h
      rw [if_pos rfl]
      simp [Array.getD_eq_getD_getElem?, k.size, hd.1, hv]
    · rw [if_neg (fun e => h (pa_inj hd.2 ht e))]
      have := k.reg t ht
      simpa [Array.getD_eq_getD_getElem?, Array.getElem?_setIfInBounds, h] using this

/-! Loads, stores. -/
theorem see_sound {α : Type} {w0 : World} {E : Env} {h : Heap} {w : World} (s : Sim w0 E h w) {b : Pa} {f : Nat → T V → Option α} {r : α} (he : (h.get b).see none f = some r) :
    ∃ n cs p c el fz, f n cs = some r ∧ n ≤ top ∧ E b = some p ∧ w.heap[p.blk]? = some (.cells c el fz) ∧ CellsOk E n p.base cs c := by
  have hb := s.blk b
  cases hg : h.get b with
  | dead => rw [hg] at he; cases he
  | iter st pos => rw [hg] at he; cases he
  | view n cs =>
    rw [hg] at he hb
    obtain ⟨hn, p, c, el, fz, h1, _, h3, h7⟩ := hb
    exact ⟨n, cs, p, c, el, fz, he, hn, h1, h3, h7⟩
  | cells n cs esz st =>
    rw [hg] at he hb
    obtain ⟨hn, p, c, el, fz, h1, _, h3, _, _, _, h7⟩ := hb
    exact ⟨n, cs, p, c, el, fz, he, hn, h1, h3, h7⟩

theorem onPtr_some {α : Type} {v : V} {f : Pa → Nat → Option α} {r : α} (h : v.onPtr none f = some r) : ∃ b off, v = .ptr b off ∧ f b off = some r := by
  cases v <;> simp only [V.onPtr] at h <;> first
    | (cases h; done)
    | exact ⟨_, _, rfl, h⟩

theorem cond_some {α : Type} {c : Bool} {x : Option α} {r : α} (h : (bif c then x else none) = some r) : c = true ∧ x = some r := by
  cases c with
  | false => cases h
  | true => exact ⟨rfl, h⟩

theorem loadC_sound {w0 : World} {E : Env} {h : Heap} {w : World} (s : Sim w0 E h w) {t : TypeId} {x v : V} {X : Value} (hx : Rel E x X) (he : (loadC P t).run h x = some v) :
    ∃ Y, (Instr.loadAt t X).run P w = .ok Y w ∧ Rel E v Y ∧ ∃ A, X = .pointer (some A) ∧ (loadVar t A).run P w = .ok Y w := by
  unfold loadC at he
  cases ht : tiOf P t with
  | none => rw [ht] at he; cases he
  | some ti =>
    rw [ht] at he
    cases hagg : ti.agg with
    | true =>
      simp only [hagg, cond_true, loadMany] at he
      obtain ⟨b, off, rfl, he⟩ := onPtr_some he
      obtain ⟨n, cs, p, c, el, fz, he, hn, hp, hh, hc⟩ := see_sound s he
      obtain ⟨hle, he⟩ := cond_some he
      rw [Nat.ble_eq] at hle
      cases he
      simp only [Rel] at hx
      obtain ⟨q, hq, rfl⟩ := hx
      rw [hp] at hq; cases hq
      have hl := run_loadCells (P := P) (off := p.base + off) (n := ti.size) hh (by have := hc.1; omega)
      have hv : (loadVar t ⟨p.blk, p.base + off, none⟩).run P w = .ok (.agg ((c.toList.drop (p.base + off)).take ti.size).toArray) w := by
        simp only [loadVar, Sem.run_bind, run_isAgg ht, Result.andThen_ok, hagg, if_true, run_size ht, hl, Sem.run_pure]
      refine ⟨_, by simp only [Instr.loadAt, Instr.sureAddr, Sem.run_bind, Sem.run_pure, Result.andThen_ok]; exact hv, ?_, _, rfl, hv⟩
      simp only [Rel]
      exact ⟨_, rfl, by simpa using gets_rel hc ti.size off hle⟩
    | false =>
      simp only [hagg, cond_false] at he
      cases h1 : Nat.beq ti.size 1 with
      | false => rw [h1] at he; cases he
      | true =>
        rw [h1] at he
        simp only [cond_true, loadOne] at he
        obtain ⟨b, off, rfl, he⟩ := onPtr_some he
        obtain ⟨n, cs, p, c, el, fz, he, hn, hp, hh, hc⟩ := see_sound s he
        obtain ⟨hle, he⟩ := cond_some he
        rw [Nat.blt_eq] at hle
        cases he
        simp only [Rel] at hx
        obtain ⟨q, hq, rfl⟩ := hx
        rw [hp] at hq; cases hq
        have hlt : p.base + off < c.size := by have := hc.1; omega
        have hy : c[p.base + off]? = some c[p.base + off] := Array.getElem?_eq_getElem hlt
        have hv : (loadVar t ⟨p.blk, p.base + off, none⟩).run P w = .ok c[p.base + off] w := by
          simp only [loadVar, Sem.run_bind, run_isAgg ht, Result.andThen_ok, hagg, Bool.false_eq_true, if_false]
          exact run_load_cell hh hy
        refine ⟨_, by simp only [Instr.loadAt, Instr.sureAddr, Sem.run_bind, Sem.run_pure, Result.andThen_ok]; exact hv, hc.2 off _ hle hy, _, rfl, hv⟩

theorem storeC_sound {w0 : World} {E : Env} {h h' : Heap} {w : World} (s : Sim w0 E h w) {t : TypeId} {x v : V} {X Y : Value} (hx : Rel E x X) (hv : Rel E v Y) (he : (storeC P t).run h x v = some h') :
    ∃ w', (Instr.storeAt t X Y).run P w = .ok () w' ∧ Sim w0 E h' w' := by
  unfold storeC at he
  cases ht : tiOf P t with
  | none => rw [ht] at he; cases he
  | some ti =>
    rw [ht] at he
    simp only [storeV] at he
    obtain ⟨b, off, rfl, he⟩ := onPtr_some he
    obtain ⟨hsz, he⟩ := cond_some he
    rw [Nat.beq_eq] at hsz
    have hb : v ≠ .bad := by
      intro e; subst e
      unfold lay at he
      cases hg : h.get b <;> rw [hg] at he <;> simp [Blk.on, V.cells, ones, V.one] at he
    have hl := hv.cells hb
    simp only [Rel] at hx
    obtain ⟨p, hp, rfl⟩ := hx
    obtain ⟨w', hrun, hs⟩ := lay_sound (P := P) s hl he hp
    refine ⟨w', ?_, hs⟩
    have hlen := hl.length
    simp only [Instr.storeAt, Instr.sureAddr, Sem.run_bind, Sem.run_pure, Result.andThen_ok, storeVar, run_size ht]
    have e : Y.cells.size = ti.size := by rw [← hsz, ← hlen]; simp
    simp only [e, ne_eq, not_true_eq_false, if_false]
    exact hrun

/-! New blocks. -/
theorem fresh_cells {E : Env} {vs : List V} {l : List Value} (hl : RelL E vs l) (hn : vs.length ≤ top) (rest : Array Value) : CellsOk E vs.length 0 (puts .e 0 vs) (l.toArray ++ rest) := by
  have hlen := hl.length
  refine ⟨by simp; omega, fun i y hi hy => ?_⟩
  rw [puts_get _ _ _ _ (by omega) (by omega), if_pos (by omega)]
  obtain ⟨y', hy', hr⟩ := hl.get i vs[i] (List.getElem?_eq_getElem hi)
  have e : (l.toArray ++ rest)[0 + i]? = l[i]? := by
    rw [Nat.zero_add, Array.getElem?_append_left (by simp; omega)]
    simp
  rw [e, hy'] at hy
  cases hy
  rw [Nat.sub_zero, List.getElem?_eq_getElem hi]
  exact hr

theorem newCells_sound {w0 : World} {E : Env} {h h' : Heap} {w : World} (s : Sim w0 E h w) {vs : List V} {l : List Value} (hl : RelL E vs l) (he : newCells h vs = some h') (t : TypeId) :
    ∃ E', E.le E' ∧ E' (pa h.next) = some ⟨w.heap.size, 0, 0⟩ ∧ (newRow t l.toArray).run P w = .ok ⟨w.heap.size, 0, none⟩ { w with heap := w.heap.push (.cells l.toArray t) } ∧
      Sim w0 E' h' { w with heap := w.heap.push (.cells l.toArray t) } := by
  unfold newCells at he
  obtain ⟨hc, he⟩ := cond_some he
  simp only [Bool.and_eq_true, Nat.ble_eq] at hc
  cases he
  have hnone := s.fresh h.next (Nat.le_refl _) hc.1
  have hle : E.le (E.put (pa h.next) ⟨w.heap.size, 0, 0⟩) := Env.le_put hnone
  have hput : E.put (pa h.next) ⟨w.heap.size, 0, 0⟩ (pa h.next) = some ⟨w.heap.size, 0, 0⟩ := by unfold Env.put; rw [if_pos rfl]
  refine ⟨_, hle, hput, by simp [newRow], s.alloc hc.1 0 ?_⟩
  have := fresh_cells (RelL.mono hle _ _ hl) hc.2 #[]
  rw [Array.append_empty] at this
  exact ⟨hc.2, _, _, t, (0, 0), hput, s.frame.size, by simp, .inr (Nat.le_refl _), fun _ => rfl, fun h => absurd rfl h, this⟩
end
end Go.Proofs.Ytkjifhoiiciblaa.Am
