/- The abstract machine, part K9 (a verified interpreter of the model's code: plain definitions and lemmas, no condition). -/
import Derived.Test.YtkjifhoiiciblaaK8
namespace Go.Proofs.Ytkjifhoiiciblaa.Am
open Go Go.RowKit

section
variable {P : Program}

theorem shiftC_sound {E : Env} {left : Bool} {t : TypeId} {x y v : V} {X Y : Value} (he : (shiftC left).run x y = some v) (hx : Rel E x X) (hy : Rel E y Y) (w : World) :
    ∃ Z, (binOp (if left then .shl else .shr) t X Y).run P w = .ok Z w ∧ Rel E v Z := by
  simp only [shiftC] at he
  obtain ⟨k, a, rfl, h1⟩ := onInt_some he
  obtain ⟨k', b, rfl, h2⟩ := onInt_some h1
  obtain ⟨h0, h3⟩ := cond_some h2
  have := hx.int_of; subst this
  have := hy.int_of; subst this
  rw [leB_eq, decide_eq_true_eq] at h0
  have h0' : ¬ b < 0 := by omega
  simp only [Option.some.injEq] at h3
  subst h3
  cases left with
  | true => simp [binOp, Op.shift, h0', Rel]
  | false => simp [binOp, Op.shift, h0', Rel]

def notNum : Value → Prop
  | .int _ _ | .float _ _ | .complex _ _ _ | .string _ => False
  | _ => True

theorem eqShape_rel {E : Env} {x : V} {X : Value} (h : Rel E x X) (hs : eqShape x = true) : notNum X := by
  cases x <;> simp only [Rel] at h <;> first
    | (simp [eqShape] at hs; done)
    | (subst h; trivial)
    | (obtain ⟨_, _, rfl⟩ := h; trivial)
    | (obtain ⟨_, rfl, _⟩ := h; trivial)
    | (obtain ⟨_, _, _, rfl⟩ := h; trivial)

theorem binOp_eql {t : TypeId} {X Y : Value} (h : notNum X) : binOp .eql t X Y = (do pure (.bool (← Op.equal t X Y)) : Sem Value) := by
  cases X <;> first | rfl | exact h.elim

theorem binOp_neq {t : TypeId} {X Y : Value} (h : notNum X) : binOp .neq t X Y = (do pure (.bool (!(← Op.equal t X Y))) : Sem Value) := by
  cases X <;> first | rfl | exact h.elim

theorem eqBin_sound {E : Env} {neg : Bool} {t : TypeId} {x y v : V} {ox oy : Operand} {X Y : Value} (he : (eqBin neg (eqTop P t)).run x y = some v) (hx : Rel E x X) (hy : Rel E y Y) (w : World) :
    ∃ Z, (do eqGuard (if neg then .neq else .eql) t ox oy X Y; binOp (if neg then .neq else .eql) t X Y : Sem Value).run P w = .ok Z w ∧ Rel E v Z := by
  simp only [eqBin] at he
  obtain ⟨hs, h1⟩ := cond_some he
  cases hb : (eqTop P t).run x y with
  | none => rw [hb] at h1; cases h1
  | some b =>
    rw [hb] at h1
    simp only [Option.some.injEq] at h1
    subst h1
    obtain ⟨e1, e2, e3⟩ := eqTop_sound hb hx hy w
    have hn := eqShape_rel hx hs
    refine ⟨.bool (bif neg then !b else b), ?_, by simp [Rel]⟩
    rw [Sem.run_bind, eqGuard_plain e2 e3, Result.andThen_ok]
    cases neg with
    | true => simp only [if_true]; rw [binOp_neq hn, Sem.run_bind, e1]; rfl
    | false => simp only [Bool.false_eq_true, if_false]; rw [binOp_eql hn, Sem.run_bind, e1]; rfl

theorem binC_sound {E : Env} {op : BinOp} {t : TypeId} {x y v : V} {ox oy : Operand} {X Y : Value} (he : (binC P op t).run x y = some v) (hx : Rel E x X) (hy : Rel E y Y) (w : World) :
    ∃ Z, (do eqGuard op t ox oy X Y; binOp op t X Y : Sem Value).run P w = .ok Z w ∧ Rel E v Z := by
  have shift : ∀ left, op = (if left then .shl else .shr) → (shiftC left).run x y = some v → ∃ Z, (do eqGuard op t ox oy X Y; binOp op t X Y : Sem Value).run P w = .ok Z w ∧ Rel E v Z := by
    intro left hop h
    obtain ⟨Z, h1, h2⟩ := shiftC_sound (P := P) (t := t) h hx hy w
    refine ⟨Z, ?_, h2⟩
    rw [← hop] at h1
    rw [Sem.run_bind, eqGuard_other (by rw [hop]; cases left <;> simp) (by rw [hop]; cases left <;> simp)]
    exact h1
  have num : (∀ w, (eqGuard op t ox oy X Y).run P w = .ok () w) → (∃ Z, (binOp op t X Y).run P w = .ok Z w ∧ Rel E v Z) → ∃ Z, (do eqGuard op t ox oy X Y; binOp op t X Y : Sem Value).run P w = .ok Z w ∧ Rel E v Z := by
    intro hg h
    obtain ⟨Z, h1, h2⟩ := h
    exact ⟨Z, by rw [Sem.run_bind, hg, Result.andThen_ok]; exact h1, h2⟩
  have hasType : op ≠ .shl → op ≠ .shr → ∃ ti, tiOf P t = some ti ∧ (match ti.und with
      | .int _ => intC op
      | .string => strC op
      | _ => match op with
        | .eql => eqBin false (eqTop P t)
        | .neq => eqBin true (eqTop P t)
        | _ => BinC.none).run x y = some v := by
    intro h1 h2
    cases ht : tiOf P t with
    | none => cases op <;> simp only [binC, ht] at he <;> first | exact absurd rfl h1 | exact absurd rfl h2 | exact absurd he (none_run _ _ _)
    | some ti => refine ⟨ti, rfl, ?_⟩; cases op <;> simp only [binC, ht] at he <;> first | exact absurd rfl h1 | exact absurd rfl h2 | exact he
  by_cases h1 : op = .shl
  · subst h1; exact shift true rfl he
  · by_cases h2 : op = .shr
    · subst h2; exact shift false rfl he
    · obtain ⟨ti, ht, h⟩ := hasType h1 h2
      have other : (match op with
          | .eql => eqBin false (eqTop P t)
          | .neq => eqBin true (eqTop P t)
          | _ => BinC.none).run x y = some v → ∃ Z, (do eqGuard op t ox oy X Y; binOp op t X Y : Sem Value).run P w = .ok Z w ∧ Rel E v Z := by
        intro h
        cases op <;> simp only at h <;> first
          | exact absurd h (none_run _ _ _)
          | exact eqBin_sound (neg := false) h hx hy w
          | exact eqBin_sound (neg := true) h hx hy w
      cases hund : ti.und with
      | int k0 =>
        rw [hund] at h
        obtain ⟨Z, q1, q2, k, n, q3⟩ := intC_sound (P := P) (t := t) ⟨h1, h2⟩ h hx hy w
        exact num (fun w => eqGuard_plain (by rw [q3]; simp) (.inl (by rw [q3]; simp)) w) ⟨Z, q1, q2⟩
      | string =>
        rw [hund] at h
        obtain ⟨Z, q1, q2, s, q3⟩ := strC_sound (P := P) (t := t) h hx hy w
        exact num (fun w => eqGuard_plain (by rw [q3]; simp) (.inl (by rw [q3]; simp)) w) ⟨Z, q1, q2⟩
      | _ => rw [hund] at h; exact other h

/-! Slices. -/
/-- what a bound gives in the model -/
def optRel (E : Env) (x : Option V) (X : Option Value) : Prop :=
  match x with
  | none => X = none
  | some v => ∃ Z, X = some Z ∧ Rel E v Z

theorem bound_run {E : Env} {x : Option V} {X : Option Value} {d y c n : Nat} (hx : optRel E x X) (he : bound x d y = some n) (hd : d ≤ y) (hy : y ≤ c) :
    n ≤ y ∧ ∀ code w, (match X with
      | some v => Instr.sliceBound v c code
      | none => (pure d : Sem Nat)).run P w = .ok n w := by
  cases x with
  | none =>
    simp only [optRel] at hx
    subst hx
    simp only [bound, Option.some.injEq] at he
    subst he
    exact ⟨hd, fun _ _ => rfl⟩
  | some v =>
    simp only [optRel] at hx
    obtain ⟨Z, rfl, hZ⟩ := hx
    simp only [bound] at he
    obtain ⟨k, i, rfl, h1⟩ := onInt_some he
    obtain ⟨h2, h3⟩ := cond_some h1
    have := hZ.int_of; subst this
    simp only [leB_eq, Bool.and_eq_true, decide_eq_true_eq] at h2
    simp only [Option.some.injEq] at h3
    subst h3
    refine ⟨by omega, fun code w => ?_⟩
    have : i ≤ (c : Int) := by omega
    simp [Instr.sliceBound, asIntOf, h2.1, this]

/-- a slice expression without a third index -/
theorem bounds_two {E : Env} {lo hi : Option V} {LO HI : Option Value} (hlo : optRel E lo LO) (hhi : optRel E hi HI) {len y cap h l : Nat} (hly : len ≤ y) (hyc : y ≤ cap) (h1 : bound hi len y = some h) (h2 : bound lo 0 h = some l) (isS : Bool) (w : World) :
    l ≤ h ∧ h ≤ y ∧ (Instr.sliceBounds isS len cap LO HI none).run P w = .ok (l, h, cap) w := by
  obtain ⟨a1, a2⟩ := bound_run (P := P) hhi h1 hly hyc
  obtain ⟨b1, b2⟩ := bound_run (P := P) hlo h2 (Nat.zero_le _) (Nat.le_refl _)
  refine ⟨b1, a1, ?_⟩
  cases HI with
  | none =>
    have e : h = len := by have := a2 .index w; simpa using this.symm
    subst e
    cases LO with
    | none => have e : l = 0 := by have := b2 .index w; simpa using this.symm
              subst e; simp [Instr.sliceBounds]
    | some v => have := b2 .sliceB w; simp only at this; simp [Instr.sliceBounds, this]
  | some u =>
    have hu := a2 (if isS then .sliceAcap else .sliceAlen) w
    simp only at hu
    cases LO with
    | none => have e : l = 0 := by have := b2 .index w; simpa using this.symm
              subst e; simp [Instr.sliceBounds, hu]
    | some v => have := b2 .sliceB w; simp only at this; simp [Instr.sliceBounds, hu, this]

/-- one with a third index -/
theorem bounds_three {E : Env} {lo : Option V} {hi mx : V} {LO : Option Value} {HI MX : Value} (hlo : optRel E lo LO) (hhi : Rel E hi HI) (hmx : Rel E mx MX) {len cap top' m h l d1 d2 : Nat} (htop : top' ≤ cap)
    (h0 : bound (some mx) d1 top' = some m) (h1 : bound (some hi) d2 m = some h) (h2 : bound lo 0 h = some l) (isS : Bool) (w : World) :
    l ≤ h ∧ h ≤ m ∧ m ≤ top' ∧ (Instr.sliceBounds isS len cap LO (some HI) (some MX)).run P w = .ok (l, h, m) w := by
  obtain ⟨b1, b2⟩ := bound_run (P := P) hlo h2 (Nat.zero_le _) (Nat.le_refl _)
  have hm : m ≤ top' ∧ ∀ code w, (Instr.sliceBound MX cap code).run P w = .ok m w := by
    simp only [bound] at h0
    obtain ⟨k, i, rfl, q1⟩ := onInt_some h0
    obtain ⟨q2, q3⟩ := cond_some q1
    have := hmx.int_of; subst this
    simp only [leB_eq, Bool.and_eq_true, decide_eq_true_eq] at q2
    simp only [Option.some.injEq] at q3
    subst q3
    refine ⟨by omega, fun code w => ?_⟩
    have : i ≤ (cap : Int) := by omega
    simp [Instr.sliceBound, asIntOf, q2.1, this]
  have hh : h ≤ m ∧ ∀ code w, (Instr.sliceBound HI m code).run P w = .ok h w := by
    simp only [bound] at h1
    obtain ⟨k, i, rfl, q1⟩ := onInt_some h1
    obtain ⟨q2, q3⟩ := cond_some q1
    have := hhi.int_of; subst this
    simp only [leB_eq, Bool.and_eq_true, decide_eq_true_eq] at q2
    simp only [Option.some.injEq] at q3
    subst q3
    refine ⟨by omega, fun code w => ?_⟩
    simp [Instr.sliceBound, asIntOf, q2.1, q2.2]
  refine ⟨b1, hh.1, hm.1, ?_⟩
  cases LO with
  | none => have e : l = 0 := by have := b2 .index w; simpa using this.symm
            subst e; simp [Instr.sliceBounds, hm.2, hh.2]
  | some v => have := b2 .slice3C w; simp only at this; simp [Instr.sliceBounds, hm.2, hh.2, this]

theorem run_slice_slice {t e : TypeId} {ti ei : TI} (ht : tiOf P t = some ti) (hu : ti.und = .slice e) (he : tiOf P e = some ei) {A : Option Addr} {len cap l h m : Nat} {LO HI MX : Option Value} {w : World}
    (hb : (Instr.sliceBounds true len cap LO HI MX).run P w = .ok (l, h, m) w) :
    (Instr.sliceAt t (.slice A len cap) LO HI MX).run P w = .ok (.slice (if m = l then A else A.map (·.add (l * ei.size))) (h - l) (m - l)) w := by
  have h1 := run_und ht w
  rw [hu] at h1
  simp only [Instr.sliceAt, Sem.run_bind, h1, Result.andThen_ok, Instr.slice, hb, run_size he, Sem.run_pure]

theorem sliceC_sound {E : Env} {t : TypeId} {x v : V} {lo hi mx : Option V} {X : Value} {LO HI MX : Option Value} (he : (sliceC P t).run x lo hi mx = some v) (hx : Rel E x X)
    (hlo : optRel E lo LO) (hhi : optRel E hi HI) (hmx : optRel E mx MX) (w : World) : ∃ Z, (Instr.sliceAt t X LO HI MX).run P w = .ok Z w ∧ Rel E v Z := by
  unfold sliceC at he
  cases ht : tiOf P t with
  | none => rw [ht] at he; cases he
  | some ti =>
    rw [ht] at he
    simp only at he
    cases hund : ti.und with
    | string =>
      rw [hund] at he
      simp only [sliceStr] at he
      cases x <;> simp only at he <;> try (cases he; done)
      rename_i s
      cases mx <;> simp only at he <;> try (cases he; done)
      simp only [optRel] at hmx; subst hmx
      have := hx.str_of; subst this
      cases h1 : bound hi s.length s.length with
      | none => rw [h1] at he; cases he
      | some h =>
        rw [h1] at he; simp only at he
        cases h2 : bound lo 0 h with
        | none => rw [h2] at he; cases he
        | some l =>
          rw [h2] at he
          simp only [Option.some.injEq] at he
          subst he
          have hs : (⟨⟨s⟩⟩ : ByteArray).size = s.length := rfl
          obtain ⟨a1, a2, a3⟩ := bounds_two (P := P) hlo hhi (Nat.le_refl _) (Nat.le_refl _) h1 h2 false w
          have hu := run_und ht w
          rw [hund] at hu
          refine ⟨.string ((⟨⟨s⟩⟩ : ByteArray).extract l h), ?_, ?_⟩
          · simp only [Instr.sliceAt, Sem.run_bind, hu, Result.andThen_ok, Instr.slice, hs, a3, Sem.run_pure, Option.isSome, Bool.false_eq_true, if_false]
          · simp only [Rel]
            rw [Lib.extract_eq]
    | slice e =>
      rw [hund] at he
      simp only at he
      cases hte : tiOf P e with
      | none => rw [hte] at he; cases he
      | some ei =>
        rw [hte] at he
        simp only at he
        cases x <;> simp only at he <;> try (cases he; done)
        · -- a slice of known capacity
          rename_i b off len cap
          simp only [Rel] at hx
          obtain ⟨p, hp, hlc, rfl⟩ := hx
          cases mx with
          | none =>
            simp only [optRel] at hmx; subst hmx
            simp only [sliceKnown] at he
            cases h1 : bound hi len cap with
            | none => rw [h1] at he; cases he
            | some h =>
              rw [h1] at he; simp only at he
              cases h2 : bound lo 0 h with
              | none => rw [h2] at he; cases he
              | some l =>
                rw [h2] at he
                simp only [Option.some.injEq, cond_beq] at he
                subst he
                obtain ⟨a1, a2, a3⟩ := bounds_two (P := P) hlo hhi hlc (Nat.le_refl _) h1 h2 true w
                refine ⟨_, run_slice_slice ht hund hte a3, ?_⟩
                simp only [Rel]
                refine ⟨p, hp, by omega, ?_⟩
                by_cases hcl : cap = l
                · simp [hcl]
                · simp [hcl, add_eq, Nat.add_assoc]
          | some mv =>
            simp only [optRel] at hmx
            obtain ⟨MV, rfl, hmv⟩ := hmx
            cases hi with
            | none => simp [sliceKnown] at he
            | some hv =>
              simp only [optRel] at hhi
              obtain ⟨HV, rfl, hhv⟩ := hhi
              simp only [sliceKnown] at he
              cases h0 : bound (some mv) cap cap with
              | none => rw [h0] at he; cases he
              | some m =>
                rw [h0] at he; simp only at he
                cases h1 : bound (some hv) len m with
                | none => rw [h1] at he; cases he
                | some h =>
                  rw [h1] at he; simp only at he
                  cases h2 : bound lo 0 h with
                  | none => rw [h2] at he; cases he
                  | some l =>
                    rw [h2] at he
                    simp only [Option.some.injEq, cond_beq] at he
                    subst he
                    obtain ⟨a1, a2, _, a3⟩ := bounds_three (P := P) (len := len) hlo hhv hmv (Nat.le_refl _) h0 h1 h2 true w
                    refine ⟨_, run_slice_slice ht hund hte a3, ?_⟩
                    simp only [Rel]
                    refine ⟨p, hp, by omega, ?_⟩
                    by_cases hcl : m = l
                    · simp [hcl]
                    · simp [hcl, add_eq, Nat.add_assoc]
        · -- one that was appended to
          rename_i b off len idx
          simp only [Rel] at hx
          obtain ⟨p, hp, hic, rfl⟩ := hx
          have hlc : len ≤ p.cap - idx := by omega
          cases mx with
          | none =>
            simp only [optRel] at hmx; subst hmx
            simp only [sliceGrown] at he
            cases h1 : bound hi len len with
            | none => rw [h1] at he; cases he
            | some h =>
              rw [h1] at he; simp only at he
              cases h2 : bound lo 0 h with
              | none => rw [h2] at he; cases he
              | some l =>
                rw [h2] at he
                simp only at he
                obtain ⟨a1, a2, a3⟩ := bounds_two (P := P) hlo hhi (Nat.le_refl _) hlc h1 h2 true w
                refine ⟨_, run_slice_slice ht hund hte a3, ?_⟩
                cases hb : Nat.blt l len with
                | true =>
                  rw [hb] at he
                  simp only [cond_true, Option.some.injEq] at he
                  subst he
                  rw [Nat.blt_eq] at hb
                  simp only [Rel]
                  refine ⟨p, hp, by omega, ?_⟩
                  rw [if_neg (by omega)]
                  simp only [Option.map, add_eq, Nat.add_assoc]
                  congr 1
                  omega
                | false =>
                  rw [hb] at he
                  simp only [cond_false, Option.some.injEq] at he
                  subst he
                  have hb' : ¬ l < len := by rw [← Nat.blt_eq, hb]; simp
                  have e1 : h - l = 0 := by omega
                  simp only [Rel]
                  refine ⟨p, hp, by omega, ?_⟩
                  rw [e1]
                  by_cases hcl : p.cap = idx + l
                  · rw [if_pos (by omega), if_pos hcl]
                    congr 1
                    omega
                  · rw [if_neg (by omega), if_neg hcl]
                    simp only [Option.map, add_eq, Nat.add_assoc]
                    congr 1
                    omega
          | some mv =>
            simp only [optRel] at hmx
            obtain ⟨MV, rfl, hmv⟩ := hmx
            cases hi with
            | none => simp [sliceGrown] at he
            | some hv =>
              simp only [optRel] at hhi
              obtain ⟨HV, rfl, hhv⟩ := hhi
              simp only [sliceGrown] at he
              cases h0 : bound (some mv) len len with
              | none => rw [h0] at he; cases he
              | some m =>
                rw [h0] at he; simp only at he
                cases h1 : bound (some hv) len m with
                | none => rw [h1] at he; cases he
                | some h =>
                  rw [h1] at he; simp only at he
                  cases h2 : bound lo 0 h with
                  | none => rw [h2] at he; cases he
                  | some l =>
                    rw [h2] at he
                    simp only [Option.some.injEq, cond_beq] at he
                    subst he
                    obtain ⟨a1, a2, a4, a3⟩ := bounds_three (P := P) (len := len) hlo hhv hmv hlc h0 h1 h2 true w
                    refine ⟨_, run_slice_slice ht hund hte a3, ?_⟩
                    simp only [Rel]
                    refine ⟨p, hp, by omega, ?_⟩
                    by_cases hcl : m = l
                    · simp [hcl]
                    · simp [hcl, add_eq, Nat.add_assoc]
        · -- a tail
          rename_i b off off' idx
          simp only [Rel] at hx
          obtain ⟨p, hp, hic, rfl⟩ := hx
          simp only [sliceTail] at he
          cases mx <;> simp only at he <;> try (cases he; done)
          simp only [optRel] at hmx; subst hmx
          cases h1 : bound hi 0 0 with
          | none => rw [h1] at he; cases he
          | some h =>
            rw [h1] at he; simp only at he
            cases h2 : bound lo 0 h with
            | none => rw [h2] at he; cases he
            | some l =>
              rw [h2] at he
              simp only [Option.some.injEq] at he
              subst he
              obtain ⟨a1, a2, a3⟩ := bounds_two (P := P) (cap := p.cap - idx) hlo hhi (Nat.le_refl _) (Nat.zero_le _) h1 h2 true w
              have e0 : h = 0 := by omega
              subst e0
              have e1 : l = 0 := by omega
              subst e1
              refine ⟨_, run_slice_slice ht hund hte a3, ?_⟩
              simp only [Rel]
              refine ⟨p, hp, hic, ?_⟩
              simp [add_eq]
        · -- nil
          simp only [Rel] at hx
          subst hx
          simp only [sliceNil] at he
          cases mx <;> simp only at he <;> try (cases he; done)
          simp only [optRel] at hmx; subst hmx
          cases h1 : bound hi 0 0 with
          | none => rw [h1] at he; cases he
          | some h =>
            rw [h1] at he; simp only at he
            cases h2 : bound lo 0 h with
            | none => rw [h2] at he; cases he
            | some l =>
              rw [h2] at he
              simp only [Option.some.injEq] at he
              subst he
              obtain ⟨a1, a2, a3⟩ := bounds_two (P := P) hlo hhi (Nat.le_refl _) (Nat.le_refl _) h1 h2 true w
              have e0 : h = 0 := by omega
              subst e0
              have e1 : l = 0 := by omega
              subst e1
              refine ⟨_, run_slice_slice ht hund hte a3, ?_⟩
              simp [Rel]
    | _ => rw [hund] at he; cases he
end
end Go.Proofs.Ytkjifhoiiciblaa.Am
