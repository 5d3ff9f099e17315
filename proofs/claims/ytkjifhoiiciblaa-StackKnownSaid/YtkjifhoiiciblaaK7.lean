/- The abstract machine, part K7 (a verified interpreter of the model's code: plain definitions and lemmas, no condition). -/
import Derived.Test.YtkjifhoiiciblaaK6
import Derived.Lib.Strings
namespace Go.Proofs.Ytkjifhoiiciblaa.Am
open Go Go.RowKit

section
variable {P : Program}

theorem bytes_beq (s s' : List UInt8) : ((⟨⟨s⟩⟩ : ByteArray) == ⟨⟨s'⟩⟩) = (s == s') := by
  show (Array.mk s == Array.mk s') = _
  simp

theorem forIn_fields (d : Nat) (xs ys : Array Value) (E : Env) (vs us : List V) (hx : RelL E vs xs.toList) (hy : RelL E us ys.toList) (eq : TypeId → EqC)
    (heq : ∀ t x y X Y b, (eq t).run x y = some b → Rel E x X → Rel E y Y → ∀ w, (Op.equalIn d t X Y).run P w = .ok b w) :
    ∀ (fs : List Field) (b : Bool), (∀ f ∈ fs, f.name ≠ "_") → eqFieldsC P eq fs vs us = some b → ∀ w,
      (do for f in fs do
            if f.name ≠ "_" then
              if !(← Op.equalIn d f.type (← part f.type xs f.offset) (← part f.type ys f.offset)) then return false
          pure true : Sem Bool).run P w = .ok b w := by
  intro fs
  induction fs with
  | nil => intro b _ h w; simp only [eqFieldsC, Option.some.injEq] at h; subst h; simp
  | cons f fs ih =>
    intro b hn h w
    have hf : f.name ≠ "_" := hn f (by simp)
    simp only [eqFieldsC] at h
    cases h1 : (partC P f.type f.offset).run vs with
    | none => rw [h1] at h; cases h
    | some x =>
      rw [h1] at h
      simp only at h
      cases h2 : (partC P f.type f.offset).run us with
      | none => rw [h2] at h; cases h
      | some y =>
        rw [h2] at h
        simp only at h
        cases h3 : (eq f.type).run x y with
        | none => rw [h3] at h; cases h
        | some c =>
          rw [h3] at h
          simp only at h
          obtain ⟨X, hX, rX⟩ := partC_sound hx h1 w
          obtain ⟨Y, hY, rY⟩ := partC_sound hy h2 w
          have he := heq _ _ _ _ _ _ h3 rX rY w
          cases c with
          | false =>
            simp only [cond_false, Option.some.injEq] at h
            subst h
            simp [hf, hX, hY, he]
          | true =>
            simp only [cond_true] at h
            have := ih b (fun g hg => hn g (by simp [hg])) h w
            simpa [hf, hX, hY, he] using this

theorem eqC_sound {E : Env} : ∀ (n d : Nat) (t : TypeId) (x y : V) (X Y : Value) (b : Bool), n ≤ d → (eqC P n t).run x y = some b → Rel E x X → Rel E y Y →
    ∀ w, (Op.equalIn d t X Y).run P w = .ok b w := by
  intro n
  induction n with
  | zero => intro d t x y X Y b _ h; simp [eqC, EqC.none] at h
  | succ n ih =>
    intro d t x y X Y b hd h hx hy w
    obtain ⟨d, rfl⟩ : ∃ d', d = d' + 1 := ⟨d - 1, by omega⟩
    simp only [eqC] at h
    cases ht : tiOf P t with
    | none => rw [ht] at h; simp [EqC.none] at h
    | some ti =>
      rw [ht] at h
      simp only at h
      have hu := run_und ht
      rw [Op.equalIn]
      simp only [Sem.run_bind, hu, Result.andThen_ok]
      have nilcase : ∀ (k : Nat), (eqNilC k).run x y = some b → nilKind x = k ∧ nilKind y = k ∧
          ((nilness x = some true ∧ nilness y = some b) ∨ (nilness x = some false ∧ nilness y = some true ∧ b = false)) := by
        intro k hk
        simp only [eqNilC] at hk
        obtain ⟨hc, hk⟩ := cond_some hk
        simp only [Bool.and_eq_true, Nat.beq_eq] at hc
        refine ⟨hc.1, hc.2, ?_⟩
        cases h1 : nilness x with
        | none => rw [h1] at hk; simp at hk
        | some c =>
          cases h2 : nilness y with
          | none => rw [h1, h2] at hk; cases c <;> simp at hk
          | some e =>
            rw [h1, h2] at hk
            cases c with
            | true => simp only [Option.some.injEq] at hk; subst hk; exact .inl ⟨rfl, rfl⟩
            | false => cases e with
              | true => simp only [Option.some.injEq] at hk; exact .inr ⟨rfl, rfl, hk.symm⟩
              | false => simp at hk
      cases hund : ti.und with
      | bool =>
        rw [hund] at h
        simp only [eqBoolC] at h
        cases x <;> simp only at h <;> try (cases h; done)
        cases y <;> simp only at h <;> try (cases h; done)
        simp only [Rel] at hx hy
        subst hx hy
        simp only [Option.some.injEq] at h
        subst h
        simp
      | int k0 =>
        rw [hund] at h
        simp only [eqIntC] at h
        obtain ⟨k, m, rfl, h1⟩ := onInt_some h
        clear h
        obtain ⟨k', m', rfl, h2⟩ := onInt_some h1
        clear h1
        obtain ⟨hk, h⟩ := cond_some h2
        clear h2 nilcase
        have := eqKind_eq hk
        subst this
        simp only [Rel] at hx hy
        subst hx hy
        simp only [Option.some.injEq, eqB_eq] at h
        subst h
        simp
      | string =>
        rw [hund] at h
        simp only [eqStrC] at h
        cases x <;> simp only at h <;> try (cases h; done)
        cases y <;> simp only at h <;> try (cases h; done)
        simp only [Rel] at hx hy
        subst hx hy
        simp only [Option.some.injEq] at h
        subst h
        simp only [Sem.run_pure, beqBytes_eq]
        congr 1
        rename_i s s'
        exact bytes_beq s s'
      | pointer e =>
        rw [hund] at h
        obtain ⟨k1, k2, h⟩ := nilcase _ h
        have f1 := (nil_facts hx).1 k1
        have f2 := (nil_facts hy).1 k2
        rcases h with ⟨a1, a2⟩ | ⟨a1, a2, rfl⟩
        · rw [f1.1 a1]
          cases b with
          | true => rw [f2.1 a2]; simp
          | false => obtain ⟨a, rfl⟩ := f2.2 a2; simp
        · obtain ⟨a, rfl⟩ := f1.2 a1
          rw [f2.1 a2]; simp
      | slice e =>
        rw [hund] at h
        obtain ⟨k1, k2, h⟩ := nilcase _ h
        have f1 := (nil_facts hx).2.1 k1
        have f2 := (nil_facts hy).2.1 k2
        rcases h with ⟨a1, a2⟩ | ⟨a1, a2, rfl⟩
        · rw [f1.1 a1]
          cases b with
          | true => rw [f2.1 a2]; simp
          | false => obtain ⟨a, m, c, rfl⟩ := f2.2 a2; simp
        · obtain ⟨a, m, c, rfl⟩ := f1.2 a1
          rw [f2.1 a2]; simp
      | map k e =>
        rw [hund] at h
        obtain ⟨k1, k2, h⟩ := nilcase _ h
        have f1 := (nil_facts hx).2.2.1 k1
        have f2 := (nil_facts hy).2.2.1 k2
        rcases h with ⟨a1, a2⟩ | ⟨a1, a2, rfl⟩
        · rw [f1.1 a1]
          cases b with
          | true => rw [f2.1 a2]; simp
          | false => obtain ⟨a, rfl⟩ := f2.2 a2; simp
        · obtain ⟨a, rfl⟩ := f1.2 a1
          rw [f2.1 a2]; simp
      | func a0 b0 c0 =>
        rw [hund] at h
        obtain ⟨k1, k2, h⟩ := nilcase _ h
        have f1 := (nil_facts hx).2.2.2.1 k1
        have f2 := (nil_facts hy).2.2.2.1 k2
        rcases h with ⟨a1, a2⟩ | ⟨a1, a2, rfl⟩
        · rw [f1.1 a1]
          cases b with
          | true => rw [f2.1 a2]; simp
          | false => obtain ⟨a, m, c, rfl⟩ := f2.2 a2; simp
        · obtain ⟨a, m, c, rfl⟩ := f1.2 a1
          rw [f2.1 a2]; simp
      | interface ms =>
        rw [hund] at h
        obtain ⟨k1, k2, h⟩ := nilcase _ h
        have f1 := (nil_facts hx).2.2.2.2 k1
        have f2 := (nil_facts hy).2.2.2.2 k2
        rcases h with ⟨a1, a2⟩ | ⟨a1, a2, rfl⟩
        · rw [f1.1 a1]
          cases b with
          | true => rw [f2.1 a2]; simp
          | false => obtain ⟨a, m, rfl⟩ := f2.2 a2; simp
        · obtain ⟨a, m, rfl⟩ := f1.2 a1
          rw [f2.1 a2]; simp
      | struct fs =>
        rw [hund] at h
        simp only at h
        cases hst : (P.stoodInHeld t || fs.toList.any (fun f => f.name == "_")) with
        | true => rw [hst] at h; simp [EqC.none] at h
        | false =>
          rw [hst] at h
          simp only [cond_false] at h
          simp only [Bool.or_eq_false_iff] at hst
          cases x <;> simp only at h <;> try (cases h; done)
          cases y <;> simp only at h <;> try (cases h; done)
          rename_i vs us
          simp only [Rel] at hx hy
          obtain ⟨xs, rfl, hx⟩ := hx
          obtain ⟨ys, rfl, hy⟩ := hy
          have hn : ∀ f ∈ fs.toList, f.name ≠ "_" := by
            intro f hf e
            have := List.any_eq_false.1 hst.2 f hf
            simp [e] at this
          have := forIn_fields (P := P) d xs ys E vs us hx hy (eqC P n) (fun t x y X Y b h1 h2 h3 => ih d t x y X Y b (by omega) h1 h2 h3) fs.toList b hn h w
          simp only [Sem.run_bind, run_program, Result.andThen_ok, hst.1, Bool.false_eq_true, if_false]
          rw [← Array.forIn_toList]
          simpa using this
      | _ => rw [hund] at h; simp [EqC.none] at h
end
end Go.Proofs.Ytkjifhoiiciblaa.Am
