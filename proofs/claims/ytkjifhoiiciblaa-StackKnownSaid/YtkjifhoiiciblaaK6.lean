/- The abstract machine, part K6 (a verified interpreter of the model's code: plain definitions and lemmas, no condition). -/
import Derived.Test.YtkjifhoiiciblaaK5
namespace Go.Proofs.Ytkjifhoiiciblaa.Am
open Go Go.RowKit

section
variable {P : Program}

theorem leB_eq (a b : Int) : Int.leB a b = decide (a ≤ b) := by
  cases a with
  | ofNat m =>
    cases b with
    | ofNat n =>
      simp only [Int.leB]
      rw [Bool.eq_iff_iff, Nat.ble_eq, decide_eq_true_eq]
      exact (Int.ofNat_le).symm
    | negSucc n => simp only [Int.leB, Int.ofNat_eq_natCast]; symm; rw [decide_eq_false_iff_not]; omega
  | negSucc m =>
    cases b with
    | ofNat n => simp only [Int.leB, Int.ofNat_eq_natCast]; symm; rw [decide_eq_true_eq]; omega
    | negSucc n =>
      simp only [Int.leB]
      rw [Bool.eq_iff_iff, Nat.ble_eq, decide_eq_true_eq]
      omega

theorem eqB_eq (a b : Int) : Int.eqB a b = (a == b) := by
  rw [Bool.eq_iff_iff, beq_iff_eq]
  cases a with
  | ofNat m =>
    cases b with
    | ofNat n => simp only [Int.eqB, Nat.beq_eq, Int.ofNat_eq_natCast]; omega
    | negSucc n => simp [Int.eqB]
  | negSucc m =>
    cases b with
    | ofNat n => simp [Int.eqB]
    | negSucc n => simp only [Int.eqB, Nat.beq_eq]; omega

theorem eqKind_eq {a b : IntKind} (h : eqKind a b = true) : a = b := by
  cases a <;> cases b <;> first | rfl | (exact absurd h (by decide))

theorem onInt_some {α : Type} {v : V} {f : IntKind → Int → Option α} {r : α} (h : v.onInt none f = some r) : ∃ k n, v = .int k n ∧ f k n = some r := by
  cases v <;> simp only [V.onInt] at h <;> first
    | (cases h; done)
    | exact ⟨_, _, rfl, h⟩

theorem beqBytes_eq : ∀ a b : List UInt8, beqBytes a b = (a == b)
  | [], [] => rfl
  | [], _ :: _ => rfl
  | _ :: _, [] => rfl
  | a :: x, b :: y => by
    simp only [beqBytes, cond_beq, beqBytes_eq x y, List.cons_beq_cons]
    by_cases h : a = b
    · subst h; simp
    · have : ¬ a.toNat = b.toNat := fun e => h (UInt8.toNat_inj.1 e)
      simp [h, this]

theorem ltBytes_eq : ∀ a b : List UInt8, ltBytes a b = Op.bytesLess a b
  | [], [] => rfl
  | [], _ :: _ => rfl
  | _ :: _, [] => rfl
  | a :: x, b :: y => by
    simp only [ltBytes, Op.bytesLess, cond_beq, ltBytes_eq x y]
    have e : Nat.blt a.toNat b.toNat = decide (a < b) := by
      rw [Bool.eq_iff_iff, Nat.blt_eq, decide_eq_true_eq, UInt8.lt_iff_toNat_lt]
    rw [e]
    by_cases h : a = b
    · subst h; simp
    · have : ¬ a.toNat = b.toNat := fun e => h (UInt8.toNat_inj.1 e)
      by_cases hl : a < b <;> simp [h, this, hl]

/-! Equality. -/
theorem partC_sound {E : Env} {t : TypeId} {off : Nat} {cs : List V} {a : Array Value} {v : V} (hr : RelL E cs a.toList) (he : (partC P t off).run cs = some v) (w : World) :
    ∃ Y, (part t a off).run P w = .ok Y w ∧ Rel E v Y := by
  unfold partC at he
  cases ht : tiOf P t with
  | none => rw [ht] at he; cases he
  | some ti =>
    rw [ht] at he
    cases hagg : ti.agg with
    | true =>
      simp only [hagg, cond_true, Option.some.injEq] at he
      subst he
      refine ⟨.agg (a.extract off (off + ti.size)), ?_, ?_⟩
      · simp only [part, Sem.run_bind, run_isAgg ht, Result.andThen_ok, hagg, if_true, run_size ht, Sem.run_pure]
      · simp only [Rel]
        refine ⟨_, rfl, ?_⟩
        have := (hr.drop off).take ti.size
        simpa [Array.toList_extract, List.extract_eq_take_drop] using this
    | false =>
      simp only [hagg, cond_false] at he
      obtain ⟨y, hy, hrel⟩ := hr.get off v he
      refine ⟨y, ?_, hrel⟩
      have : a[off]? = some y := by simpa using hy
      simp only [part, Sem.run_bind, run_isAgg ht, Result.andThen_ok, hagg, Bool.false_eq_true, if_false, this, Sem.run_pure]

theorem nil_facts {E : Env} {x : V} {X : Value} (h : Rel E x X) :
    (nilKind x = 1 → (nilness x = some true → X = .pointer none) ∧ (nilness x = some false → ∃ a, X = .pointer (some a))) ∧
    (nilKind x = 2 → (nilness x = some true → X = .slice none 0 0) ∧ (nilness x = some false → ∃ a n c, X = .slice (some a) n c)) ∧
    (nilKind x = 3 → (nilness x = some true → X = .map none) ∧ (nilness x = some false → ∃ a, X = .map (some a))) ∧
    (nilKind x = 4 → (nilness x = some true → X = .nilFunc) ∧ (nilness x = some false → ∃ a b c, X = .func a b c)) ∧
    (nilKind x = 5 → (nilness x = some true → X = .nilIface) ∧ (nilness x = some false → ∃ a b, X = .iface a b)) := by
  cases x <;> simp only [Rel] at h <;> simp [nilKind, nilness] <;> first
    | exact h
    | (obtain ⟨_, _, rfl⟩ := h; simp)
    | (obtain ⟨_, rfl, _⟩ := h; simp)
    | (obtain ⟨_, _, _, rfl⟩ := h; simp)
end
end Go.Proofs.Ytkjifhoiiciblaa.Am
