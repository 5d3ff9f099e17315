/- The abstract machine and its walks (a verified interpreter of the model's code: plain definitions and lemmas, no condition). -/
import Derived.Test.YtpfmfpakbfkfoaaGreatDoorM1
import Derived.Laws.Append
import Derived.LaidEqlPtr

namespace Go.Proofs.YtpfmfpakbfkfoaaGreatDoor.Am
variable [Lay]
set_option linter.unusedSectionVars false
open Go Go.RowKit

section
variable {P : Program}

def notNum : Value → Prop
  | .int _ _ | .float _ _ | .complex _ _ _ | .string _ => False
  | _ => True

theorem eqShape_rel {E : Env} {x : V} {X : Value} (h : Rel E x X) (hs : eqShape x = true) : notNum X := by
  cases x <;> simp only [Rel] at h <;> first
    | (simp [eqShape] at hs; done)
    | (subst h; trivial)
    | (obtain ⟨_, _, rfl⟩ := h; trivial)
    | (obtain ⟨_, rfl, _⟩ := h; trivial)
    | (rcases h with ⟨_, _, rfl, _⟩ | ⟨_, _, _, _, _, rfl⟩ <;> trivial)
    | (obtain ⟨_, _, rfl, _⟩ := h; trivial)
    | (obtain ⟨_, _, _, rfl⟩ := h; trivial)

theorem binOp_eql {t : TypeId} {X Y : Value} (h : notNum X) : binOp .eql t X Y = (do pure (.bool (← Op.equal t X Y)) : Sem Value) := by
  cases X <;> first | rfl | exact h.elim

theorem binOp_neq {t : TypeId} {X Y : Value} (h : notNum X) : binOp .neq t X Y = (do pure (.bool (!(← Op.equal t X Y))) : Sem Value) := by
  cases X <;> first | rfl | exact h.elim

theorem eqBin_sound {E : Env} {neg : Bool} {t : TypeId} {x y v : V} {ox oy : Operand} {X Y : Value} (he : (eqBin neg (eqTop P t)).run x y = some v) (hx : Rel E x X) (hy : Rel E y Y) (w : World) :
    ∃ Z, (do eqGuard (if neg then .neq else .eql) t ox oy X Y; binOp (if neg then .neq else .eql) t X Y : Sem Value).run P w = .ok Z w ∧ Rel E v Z := by
  simp only [eqBin] at he
  obtain ⟨hs, h1⟩ := cond_some he
  cases hb : (eqTop P t).run x y with
  | none => rw [hb] at h1; cases h1
  | some b =>
    rw [hb] at h1
    simp only [Option.some.injEq] at h1
    subst h1
    obtain ⟨e1, e2, e3⟩ := eqTop_sound hb hx hy w
    have hn := eqShape_rel hx hs
    refine ⟨.bool (bif neg then !b else b), ?_, by simp [Rel]⟩
    rw [Sem.run_bind, eqGuard_plain e2 e3, Result.andThen_ok]
    cases neg with
    | true => simp only [if_true]; rw [binOp_neq hn, Sem.run_bind, e1]; rfl
    | false => simp only [Bool.false_eq_true, if_false]; rw [binOp_eql hn, Sem.run_bind, e1]; rfl

theorem binC_sound {E : Env} {op : BinOp} {t : TypeId} {x y v : V} {ox oy : Operand} {X Y : Value} (he : (binC P op t).run x y = some v) (hx : Rel E x X) (hy : Rel E y Y) (w : World) :
    ∃ Z, (do eqGuard op t ox oy X Y; binOp op t X Y : Sem Value).run P w = .ok Z w ∧ Rel E v Z := by
  have shift : ∀ left : Bool, op = (if left then .shl else .shr) → (symC (if left then .shl else .shr)).run x y = some v → ∃ Z, (do eqGuard op t ox oy X Y; binOp op t X Y : Sem Value).run P w = .ok Z w ∧ Rel E v Z := by
    intro left hop h
    obtain ⟨Z, h1, h2⟩ := symS_sound (P := P) (t := t) h hx hy w
    refine ⟨Z, ?_, h2⟩
    rw [← hop] at h1
    rw [Sem.run_bind, eqGuard_other (by rw [hop]; cases left <;> simp) (by rw [hop]; cases left <;> simp)]
    exact h1
  have num : (∀ w, (eqGuard op t ox oy X Y).run P w = .ok () w) → (∃ Z, (binOp op t X Y).run P w = .ok Z w ∧ Rel E v Z) → ∃ Z, (do eqGuard op t ox oy X Y; binOp op t X Y : Sem Value).run P w = .ok Z w ∧ Rel E v Z := by
    intro hg h
    obtain ⟨Z, h1, h2⟩ := h
    exact ⟨Z, by rw [Sem.run_bind, hg, Result.andThen_ok]; exact h1, h2⟩
  have hasType : op ≠ .shl → op ≠ .shr → ∃ ti, tiOf P t = some ti ∧ (match ti.und with
      | .int _ => symC op
      | .string => strC op
      | _ => match (generalizing := false) op with
        | .eql => eqBin false (eqTop P t)
        | .neq => eqBin true (eqTop P t)
        | _ => BinC.none).run x y = some v := by
    intro h1 h2
    cases ht : tiOf P t with
    | none => cases op <;> simp only [binC, ht] at he <;> first | exact absurd rfl h1 | exact absurd rfl h2 | exact absurd he (none_run _ _ _)
    | some ti => refine ⟨ti, rfl, ?_⟩; cases op <;> simp only [binC, ht] at he <;> first | exact absurd rfl h1 | exact absurd rfl h2 | exact he
  by_cases h1 : op = .shl
  · subst h1; exact shift true rfl he
  · by_cases h2 : op = .shr
    · subst h2; exact shift false rfl he
    · obtain ⟨ti, ht, h⟩ := hasType h1 h2
      have other : (match (generalizing := false) op with
          | .eql => eqBin false (eqTop P t)
          | .neq => eqBin true (eqTop P t)
          | _ => BinC.none).run x y = some v → ∃ Z, (do eqGuard op t ox oy X Y; binOp op t X Y : Sem Value).run P w = .ok Z w ∧ Rel E v Z := by
        intro h
        cases op <;> simp only at h <;> first
          | exact absurd h (none_run _ _ _)
          | exact eqBin_sound (neg := false) h hx hy w
          | exact eqBin_sound (neg := true) h hx hy w
      cases hund : ti.und with
      | int k0 =>
        rw [hund] at h
        obtain ⟨Z, q1, q2, k, n, q3⟩ := symC_sound (P := P) (t := t) ⟨h1, h2⟩ h hx hy w
        exact num (fun w => eqGuard_plain (by rw [q3]; simp) (.inl (by rw [q3]; simp)) w) ⟨Z, q1, q2⟩
      | string =>
        rw [hund] at h
        obtain ⟨Z, q1, q2, s, q3⟩ := strC_sound (P := P) (t := t) h hx hy w
        exact num (fun w => eqGuard_plain (by rw [q3]; simp) (.inl (by rw [q3]; simp)) w) ⟨Z, q1, q2⟩
      | _ => rw [hund] at h; exact other h

theorem litNil_const {x : Operand} (h : litNil x = true) : x = .const .nilIface := by
  unfold litNil at h
  split at h
  · rfl
  · cases h

theorem binL_sound {E : Env} {op : BinOp} {t : TypeId} {x y v : V} {ox oy : Operand} {X Y : Value} (he : (binL P op t (litNil ox || litNil oy)).run x y = some v) (hx : Rel E x X) (hy : Rel E y Y) (w : World) :
    ∃ Z, (do eqGuard op t ox oy X Y; binOp op t X Y : Sem Value).run P w = .ok Z w ∧ Rel E v Z := by
  unfold binL at he
  cases hl : (litNil ox || litNil oy) with
  | false => rw [hl] at he; exact binC_sound he hx hy w
  | true =>
    rw [hl] at he
    simp only [cond_true] at he
    have no99 : ∀ {n : Bool} {z : V}, ¬ (eqBin n (eqNilC 99)).run x y = some z := by
      intro n z h
      simp only [eqBin] at h
      obtain ⟨_, h⟩ := cond_some h
      cases hb : (eqNilC 99).run x y with
      | none => rw [hb] at h; cases h
      | some b =>
        simp only [eqNilC] at hb
        obtain ⟨hc, _⟩ := cond_some hb
        simp only [Bool.and_eq_true, Nat.beq_eq] at hc
        cases x <;> simp [nilKind] at hc
    cases ht : tiOf P t with
    | none => rw [ht] at he; exact absurd he no99
    | some ti =>
      rw [ht] at he
      simp only at he
      cases hund : ti.und with
      | interface ms =>
        rw [hund] at he
        simp only at he
        have key : ∀ neg : Bool, op = (if neg then .neq else .eql) → (eqBin neg (eqNilC 5)).run x y = some v → ∃ Z, (do eqGuard op t ox oy X Y; binOp op t X Y : Sem Value).run P w = .ok Z w ∧ Rel E v Z := by
          intro neg hop h
          simp only [eqBin] at h
          obtain ⟨hs, h1⟩ := cond_some h
          cases hb : (eqNilC 5).run x y with
          | none => rw [hb] at h1; cases h1
          | some b =>
            rw [hb] at h1
            simp only [Option.some.injEq] at h1
            subst h1
            have e12 : eqC P 12 t = eqNilC 5 := by rw [eqC, ht]; simp only [hund]; rfl
            have e1 : (Op.equal t X Y).run P w = .ok b w := eqC_sound 12 Op.maxDepth t x y X Y b (by decide) (by rw [e12]; exact hb) hx hy w
            have hn := eqShape_rel hx hs
            simp only [eqNilC] at hb
            obtain ⟨hc, _⟩ := cond_some hb
            simp only [Bool.and_eq_true, Nat.beq_eq] at hc
            have hX : ∀ a, X ≠ .agg a := by
              intro a hxa
              rw [hxa] at hx
              rcases Rel.agg_of hx with q | ⟨cs, q⟩ <;> subst q <;> simp [nilKind] at hc
            have hg : ∀ o : BinOp, (eqGuard o t ox oy X Y).run P w = .ok () w := by
              have lit : (∃ c, ox = .const c) ∨ (∃ c, oy = .const c) := by
                rcases Bool.or_eq_true _ _ ▸ hl with q | q
                · exact .inl ⟨_, litNil_const q⟩
                · exact .inr ⟨_, litNil_const q⟩
              have key : ∀ m : Bool, (if !m then (pure () : Sem Unit) else (eqGuard .eql t ox oy X Y)).run P w = .ok () w := by
                intro m
                cases m with
                | false => rfl
                | true =>
                  simp only [Bool.not_true, Bool.false_eq_true, if_false, eqGuard]
                  split
                  · rcases lit with ⟨c, q⟩ | ⟨c, q⟩ <;> subst q <;> simp
                  · rename_i a b
                    exact absurd rfl (hX a)
                  · rfl
              intro o
              cases o <;> first
                | rfl
                | exact key true
            refine ⟨.bool (bif neg then !b else b), ?_, by simp [Rel]⟩
            rw [Sem.run_bind, hg, Result.andThen_ok, hop]
            cases neg with
            | true => simp only [if_true]; rw [binOp_neq hn, Sem.run_bind, e1]; rfl
            | false => simp only [Bool.false_eq_true, if_false]; rw [binOp_eql hn, Sem.run_bind, e1]; rfl
        cases op <;> simp only at he <;> first
          | exact key false rfl he
          | exact key true rfl he
          | exact absurd he no99
      | _ => rw [hund] at he; exact absurd he no99

/-! Slices. -/
/-- what a bound gives in the model -/
def optRel (E : Env) (x : Option V) (X : Option Value) : Prop :=
  match x with
  | none => X = none
  | some v => ∃ Z, X = some Z ∧ Rel E v Z

theorem bound_run {E : Env} {x : Option V} {X : Option Value} {d y c n : Nat} (hx : optRel E x X) (he : bound x d y = some n) (hd : d ≤ y) (hy : y ≤ c) :
    n ≤ y ∧ ∀ code w, (match X with
      | some v => Instr.sliceBound v c code
      | none => (pure d : Sem Nat)).run P w = .ok n w := by
  cases x with
  | none =>
    simp only [optRel] at hx
    subst hx
    simp only [bound, Option.some.injEq] at he
    subst he
    exact ⟨hd, fun _ _ => rfl⟩
  | some v =>
    simp only [optRel] at hx
    obtain ⟨Z, rfl, hZ⟩ := hx
    simp only [bound] at he
    obtain ⟨k, i, rfl, h1⟩ := onInt_some he
    obtain ⟨h2, h3⟩ := cond_some h1
    have := hZ.int_of; subst this
    simp only [leB_eq, Bool.and_eq_true, decide_eq_true_eq] at h2
    simp only [Option.some.injEq] at h3
    subst h3
    refine ⟨by omega, fun code w => ?_⟩
    have : i ≤ (c : Int) := by omega
    simp [Instr.sliceBound, asIntOf, h2.1, this]

/-- a slice expression without a third index -/
theorem bounds_two {E : Env} {lo hi : Option V} {LO HI : Option Value} (hlo : optRel E lo LO) (hhi : optRel E hi HI) {len y cap h l : Nat} (hly : len ≤ y) (hyc : y ≤ cap) (h1 : bound hi len y = some h) (h2 : bound lo 0 h = some l) (isS : Bool) (w : World) :
    l ≤ h ∧ h ≤ y ∧ (Instr.sliceBounds isS len cap LO HI none).run P w = .ok (l, h, cap) w := by
  obtain ⟨a1, a2⟩ := bound_run (P := P) hhi h1 hly hyc
  obtain ⟨b1, b2⟩ := bound_run (P := P) hlo h2 (Nat.zero_le _) (Nat.le_refl _)
  refine ⟨b1, a1, ?_⟩
  cases HI with
  | none =>
    have e : h = len := by have := a2 .index w; simpa using this.symm
    subst e
    cases LO with
    | none => have e : l = 0 := by have := b2 .index w; simpa using this.symm
              subst e; simp [Instr.sliceBounds]
    | some v => have := b2 .sliceB w; simp only at this; simp [Instr.sliceBounds, this]
  | some u =>
    have hu := a2 (if isS then .sliceAcap else .sliceAlen) w
    simp only at hu
    cases LO with
    | none => have e : l = 0 := by have := b2 .index w; simpa using this.symm
              subst e; simp [Instr.sliceBounds, hu]
    | some v => have := b2 .sliceB w; simp only at this; simp [Instr.sliceBounds, hu, this]

/-- one with a third index -/
theorem bounds_three {E : Env} {lo : Option V} {hi mx : V} {LO : Option Value} {HI MX : Value} (hlo : optRel E lo LO) (hhi : Rel E hi HI) (hmx : Rel E mx MX) {len cap top' m h l d1 d2 : Nat} (htop : top' ≤ cap)
    (h0 : bound (some mx) d1 top' = some m) (h1 : bound (some hi) d2 m = some h) (h2 : bound lo 0 h = some l) (isS : Bool) (w : World) :
    l ≤ h ∧ h ≤ m ∧ m ≤ top' ∧ (Instr.sliceBounds isS len cap LO (some HI) (some MX)).run P w = .ok (l, h, m) w := by
  obtain ⟨b1, b2⟩ := bound_run (P := P) hlo h2 (Nat.zero_le _) (Nat.le_refl _)
  have hm : m ≤ top' ∧ ∀ code w, (Instr.sliceBound MX cap code).run P w = .ok m w := by
    simp only [bound] at h0
    obtain ⟨k, i, rfl, q1⟩ := onInt_some h0
    obtain ⟨q2, q3⟩ := cond_some q1
    have := hmx.int_of; subst this
    simp only [leB_eq, Bool.and_eq_true, decide_eq_true_eq] at q2
    simp only [Option.some.injEq] at q3
    subst q3
    refine ⟨by omega, fun code w => ?_⟩
    have : i ≤ (cap : Int) := by omega
    simp [Instr.sliceBound, asIntOf, q2.1, this]
  have hh : h ≤ m ∧ ∀ code w, (Instr.sliceBound HI m code).run P w = .ok h w := by
    simp only [bound] at h1
    obtain ⟨k, i, rfl, q1⟩ := onInt_some h1
    obtain ⟨q2, q3⟩ := cond_some q1
    have := hhi.int_of; subst this
    simp only [leB_eq, Bool.and_eq_true, decide_eq_true_eq] at q2
    simp only [Option.some.injEq] at q3
    subst q3
    refine ⟨by omega, fun code w => ?_⟩
    simp [Instr.sliceBound, asIntOf, q2.1, q2.2]
  refine ⟨b1, hh.1, hm.1, ?_⟩
  cases LO with
  | none => have e : l = 0 := by have := b2 .index w; simpa using this.symm
            subst e; simp [Instr.sliceBounds, hm.2, hh.2]
  | some v => have := b2 .slice3C w; simp only at this; simp [Instr.sliceBounds, hm.2, hh.2, this]

theorem run_slice_slice {t e : TypeId} {ti ei : TI} (ht : tiOf P t = some ti) (hu : ti.und = .slice e) (he : tiOf P e = some ei) {A : Option Addr} {len cap l h m : Nat} {LO HI MX : Option Value} {w : World}
    (hb : (Instr.sliceBounds true len cap LO HI MX).run P w = .ok (l, h, m) w) :
    (Instr.sliceAt t (.slice A len cap) LO HI MX).run P w = .ok (.slice (if m = l then A else A.map (·.add (l * ei.size))) (h - l) (m - l)) w := by
  have h1 := run_und ht w
  rw [hu] at h1
  simp only [Instr.sliceAt, Sem.run_bind, h1, Result.andThen_ok, Instr.slice, hb, run_size he, Sem.run_pure]

theorem sliceC_sound {E : Env} {t : TypeId} {x v : V} {lo hi mx : Option V} {X : Value} {LO HI MX : Option Value} (he : (sliceC P t).run x lo hi mx = some v) (hx : Rel E x X)
    (hlo : optRel E lo LO) (hhi : optRel E hi HI) (hmx : optRel E mx MX) (w : World) : ∃ Z, (Instr.sliceAt t X LO HI MX).run P w = .ok Z w ∧ Rel E v Z := by
  unfold sliceC at he
  cases ht : tiOf P t with
  | none => rw [ht] at he; cases he
  | some ti =>
    rw [ht] at he
    simp only at he
    cases hund : ti.und with
    | string =>
      rw [hund] at he
      simp only [sliceStr] at he
      cases x <;> simp only at he <;> try (cases he; done)
      rename_i s
      cases mx <;> simp only at he <;> try (cases he; done)
      simp only [optRel] at hmx; subst hmx
      have := hx.str_of; subst this
      cases h1 : bound hi s.length s.length with
      | none => rw [h1] at he; cases he
      | some h =>
        rw [h1] at he; simp only at he
        cases h2 : bound lo 0 h with
        | none => rw [h2] at he; cases he
        | some l =>
          rw [h2] at he
          simp only [Option.some.injEq] at he
          subst he
          have hs : (⟨⟨s⟩⟩ : ByteArray).size = s.length := rfl
          obtain ⟨a1, a2, a3⟩ := bounds_two (P := P) hlo hhi (Nat.le_refl _) (Nat.le_refl _) h1 h2 false w
          have hu := run_und ht w
          rw [hund] at hu
          refine ⟨.string ((⟨⟨s⟩⟩ : ByteArray).extract l h), ?_, ?_⟩
          · simp only [Instr.sliceAt, Sem.run_bind, hu, Result.andThen_ok, Instr.slice, hs, a3, Sem.run_pure, Option.isSome, Bool.false_eq_true, if_false]
          · simp only [Rel]
            rw [Lib.extract_eq]
    | slice e =>
      rw [hund] at he
      simp only at he
      cases hte : tiOf P e with
      | none => rw [hte] at he; cases he
      | some ei =>
        rw [hte] at he
        simp only at he
        cases x <;> simp only at he <;> try (cases he; done)
        · -- a slice of known capacity
          rename_i b off len cap
          simp only [Rel] at hx
          obtain ⟨p, hp, hlc, rfl⟩ := hx
          cases mx with
          | none =>
            simp only [optRel] at hmx; subst hmx
            simp only [sliceKnown] at he
            cases h1 : bound hi len cap with
            | none => rw [h1] at he; cases he
            | some h =>
              rw [h1] at he; simp only at he
              cases h2 : bound lo 0 h with
              | none => rw [h2] at he; cases he
              | some l =>
                rw [h2] at he
                simp only [Option.some.injEq, cond_beq] at he
                subst he
                obtain ⟨a1, a2, a3⟩ := bounds_two (P := P) hlo hhi hlc (Nat.le_refl _) h1 h2 true w
                refine ⟨_, run_slice_slice ht hund hte a3, ?_⟩
                simp only [Rel]
                refine ⟨p, hp, by omega, ?_⟩
                by_cases hcl : cap = l
                · simp [hcl]
                · simp [hcl, add_eq, Nat.add_assoc]
          | some mv =>
            simp only [optRel] at hmx
            obtain ⟨MV, rfl, hmv⟩ := hmx
            cases hi with
            | none => simp [sliceKnown] at he
            | some hv =>
              simp only [optRel] at hhi
              obtain ⟨HV, rfl, hhv⟩ := hhi
              simp only [sliceKnown] at he
              cases h0 : bound (some mv) cap cap with
              | none => rw [h0] at he; cases he
              | some m =>
                rw [h0] at he; simp only at he
                cases h1 : bound (some hv) len m with
                | none => rw [h1] at he; cases he
                | some h =>
                  rw [h1] at he; simp only at he
                  cases h2 : bound lo 0 h with
                  | none => rw [h2] at he; cases he
                  | some l =>
                    rw [h2] at he
                    simp only [Option.some.injEq, cond_beq] at he
                    subst he
                    obtain ⟨a1, a2, _, a3⟩ := bounds_three (P := P) (len := len) hlo hhv hmv (Nat.le_refl _) h0 h1 h2 true w
                    refine ⟨_, run_slice_slice ht hund hte a3, ?_⟩
                    simp only [Rel]
                    refine ⟨p, hp, by omega, ?_⟩
                    by_cases hcl : m = l
                    · simp [hcl]
                    · simp [hcl, add_eq, Nat.add_assoc]
        · -- one that was appended to
          rename_i b off len idx
          simp only [Rel] at hx
          obtain ⟨p, hp, hic, rfl⟩ := hx
          have hlc : len ≤ p.cap - idx := by omega
          cases mx with
          | none =>
            simp only [optRel] at hmx; subst hmx
            simp only [sliceGrown] at he
            cases h1 : bound hi len len with
            | none => rw [h1] at he; cases he
            | some h =>
              rw [h1] at he; simp only at he
              cases h2 : bound lo 0 h with
              | none => rw [h2] at he; cases he
              | some l =>
                rw [h2] at he
                simp only at he
                obtain ⟨a1, a2, a3⟩ := bounds_two (P := P) hlo hhi (Nat.le_refl _) hlc h1 h2 true w
                refine ⟨_, run_slice_slice ht hund hte a3, ?_⟩
                cases hb : Nat.blt l len with
                | true =>
                  rw [hb] at he
                  simp only [cond_true, Option.some.injEq] at he
                  subst he
                  rw [Nat.blt_eq] at hb
                  simp only [Rel]
                  refine ⟨p, hp, by omega, ?_⟩
                  rw [if_neg (by omega)]
                  simp only [Option.map, add_eq, Nat.add_assoc]
                  congr 1
                  omega
                | false =>
                  rw [hb] at he
                  simp only [cond_false, Option.some.injEq] at he
                  subst he
                  have hb' : ¬ l < len := by rw [← Nat.blt_eq, hb]; simp
                  have e1 : h - l = 0 := by omega
                  simp only [Rel]
                  rw [e1]
                  split
                  · exact ⟨_, _, rfl⟩
                  · exact ⟨_, _, rfl⟩
          | some mv =>
            simp only [optRel] at hmx
            obtain ⟨MV, rfl, hmv⟩ := hmx
            cases hi with
            | none => simp [sliceGrown] at he
            | some hv =>
              simp only [optRel] at hhi
              obtain ⟨HV, rfl, hhv⟩ := hhi
              simp only [sliceGrown] at he
              cases h0 : bound (some mv) len len with
              | none => rw [h0] at he; cases he
              | some m =>
                rw [h0] at he; simp only at he
                cases h1 : bound (some hv) len m with
                | none => rw [h1] at he; cases he
                | some h =>
                  rw [h1] at he; simp only at he
                  cases h2 : bound lo 0 h with
                  | none => rw [h2] at he; cases he
                  | some l =>
                    rw [h2] at he
                    simp only [Option.some.injEq, cond_beq] at he
                    subst he
                    obtain ⟨a1, a2, a4, a3⟩ := bounds_three (P := P) (len := len) hlo hhv hmv hlc h0 h1 h2 true w
                    refine ⟨_, run_slice_slice ht hund hte a3, ?_⟩
                    simp only [Rel]
                    refine ⟨p, hp, by omega, ?_⟩
                    by_cases hcl : m = l
                    · simp [hcl]
                    · simp [hcl, add_eq, Nat.add_assoc]
        · -- a tail
          rename_i b off off' idx
          simp only [Rel] at hx
          obtain ⟨p, cp, rfl⟩ := hx
          simp only [sliceTail] at he
          cases mx <;> simp only at he <;> try (cases he; done)
          simp only [optRel] at hmx; subst hmx
          cases h1 : bound hi 0 0 with
          | none => rw [h1] at he; cases he
          | some h =>
            rw [h1] at he; simp only at he
            cases h2 : bound lo 0 h with
            | none => rw [h2] at he; cases he
            | some l =>
              rw [h2] at he
              simp only [Option.some.injEq] at he
              subst he
              obtain ⟨a1, a2, a3⟩ := bounds_two (P := P) (cap := cp) hlo hhi (Nat.le_refl _) (Nat.zero_le _) h1 h2 true w
              have e0 : h = 0 := by omega
              subst e0
              have e1 : l = 0 := by omega
              subst e1
              refine ⟨_, run_slice_slice ht hund hte a3, ?_⟩
              simp only [Rel]
              split
              · exact ⟨_, _, rfl⟩
              · exact ⟨_, _, rfl⟩
        · -- nil
          simp only [Rel] at hx
          subst hx
          simp only [sliceNil] at he
          cases mx with
          | none =>
            simp only at he
            simp only [optRel] at hmx; subst hmx
            cases h1 : bound hi 0 0 with
            | none => rw [h1] at he; cases he
            | some h =>
              rw [h1] at he; simp only at he
              cases h2 : bound lo 0 h with
              | none => rw [h2] at he; cases he
              | some l =>
                rw [h2] at he
                simp only [Option.some.injEq] at he
                subst he
                obtain ⟨a1, a2, a3⟩ := bounds_two (P := P) hlo hhi (Nat.le_refl _) (Nat.le_refl _) h1 h2 true w
                have e0 : h = 0 := by omega
                subst e0
                have e1 : l = 0 := by omega
                subst e1
                refine ⟨_, run_slice_slice ht hund hte a3, ?_⟩
                simp [Rel]
          | some mv =>
            simp only [optRel] at hmx
            obtain ⟨MV, rfl, hmv⟩ := hmx
            cases hi with
            | none => simp at he
            | some hv =>
              simp only [optRel] at hhi
              obtain ⟨HV, rfl, hhv⟩ := hhi
              simp only at he
              cases h0 : bound (some mv) 0 0 with
              | none => rw [h0] at he; cases he
              | some m =>
                rw [h0] at he; simp only at he
                cases h1 : bound (some hv) 0 m with
                | none => rw [h1] at he; cases he
                | some h =>
                  rw [h1] at he; simp only at he
                  cases h2 : bound lo 0 h with
                  | none => rw [h2] at he; cases he
                  | some l =>
                    rw [h2] at he
                    simp only [Option.some.injEq] at he
                    subst he
                    obtain ⟨a1, a2, a4, a3⟩ := bounds_three (P := P) (len := 0) hlo hhv hmv (Nat.le_refl _) h0 h1 h2 true w
                    have e2 : m = 0 := by omega
                    subst e2
                    have e0 : h = 0 := by omega
                    subst e0
                    have e1 : l = 0 := by omega
                    subst e1
                    refine ⟨_, run_slice_slice ht hund hte a3, ?_⟩
                    simp [Rel]
    | _ => rw [hund] at he; cases he
end
end Go.Proofs.YtpfmfpakbfkfoaaGreatDoor.Am

namespace Go.Proofs.YtpfmfpakbfkfoaaGreatDoor.Am
variable [Lay]
set_option linter.unusedSectionVars false
open Go Go.RowKit

section
variable {P : Program}

theorem fieldD_some {t : TypeId} {i : Nat} {f : Field} (h : fieldD P t i = some f) : ∃ ti fs, tiOf P t = some ti ∧ ti.und = .struct fs ∧ fs[i]? = some f := by
  unfold fieldD at h
  cases ht : tiOf P t with
  | none => rw [ht] at h; cases h
  | some ti =>
    rw [ht] at h
    simp only at h
    cases hu : ti.und <;> rw [hu] at h <;> simp only at h <;> try (cases h; done)
    exact ⟨ti, _, rfl, hu, h⟩

theorem fieldAddrC_sound {E : Env} {t : TypeId} {i : Nat} {x v : V} {X : Value} (he : (fieldAddrC P t i).run x = some v) (hx : Rel E x X) (w : World) :
    ∃ Z, (Instr.fieldAt t X i).run P w = .ok Z w ∧ Rel E v Z := by
  unfold fieldAddrC at he
  cases hf : fieldD P t i with
  | none => rw [hf] at he; cases he
  | some f =>
    rw [hf] at he
    simp only at he
    cases hfi : tiOf P f.type with
    | none => rw [hfi] at he; cases he
    | some fi =>
      rw [hfi] at he
      simp only at he
      cases hz : Nat.beq fi.size 0 with
      | true => rw [hz] at he; cases he
      | false =>
        rw [hz] at he
        simp only [cond_false] at he
        obtain ⟨b, off, rfl, h1⟩ := onPtr_some he
        simp only [Option.some.injEq] at h1
        subst h1
        simp only [Rel] at hx
        obtain ⟨p, hp, rfl⟩ := hx
        obtain ⟨ti, fs, ht, hu, hfs⟩ := fieldD_some hf
        have hu' := run_und ht w
        rw [hu] at hu'
        have hne : ¬ fi.size = 0 := by intro e; rw [e] at hz; simp at hz
        refine ⟨.pointer (some ⟨p.blk, p.base + off + f.offset, none⟩), ?_, ?_⟩
        · simp only [Instr.fieldAt, Sem.run_bind, hu', Result.andThen_ok, hfs, Instr.sureAddr, Sem.run_pure, fieldPlace, run_size hfi, if_neg hne, add_eq]
        · simp only [Rel]
          exact ⟨p, hp, by simp [Nat.add_assoc]⟩

theorem fieldC_sound {E : Env} {t : TypeId} {i : Nat} {x v : V} {X : Value} (he : (fieldC P t i).run x = some v) (hx : Rel E x X) (w : World) :
    ∃ Z, (Instr.field t X i).run P w = .ok Z w ∧ Rel E v Z := by
  unfold fieldC at he
  cases hf : fieldD P t i with
  | none => rw [hf] at he; cases he
  | some f =>
    rw [hf] at he
    simp only at he
    cases x <;> simp only at he <;> try (cases he; done)
    simp only [Rel] at hx
    obtain ⟨a, rfl, hx⟩ := hx
    obtain ⟨ti, fs, ht, hu, hfs⟩ := fieldD_some hf
    have hu' := run_und ht w
    rw [hu] at hu'
    obtain ⟨Y, hY, hr⟩ := partC_sound hx he w
    exact ⟨Y, by simp only [Instr.field, Sem.run_bind, hu', Result.andThen_ok, hfs, asAgg, Sem.run_pure, hY], hr⟩

theorem inRange_iff {i : Int} {n : Nat} (h : inRange i n = true) : 0 ≤ i ∧ i < n := by
  simp only [inRange, leB_eq, Bool.and_eq_true, Bool.not_eq_true', decide_eq_true_eq, decide_eq_false_iff_not] at h
  omega

theorem indexAddrC_sound {E : Env} {t : TypeId} {x ix v : V} {X IX : Value} (he : (indexAddrC P t).run x ix = some v) (hx : Rel E x X) (hi : Rel E ix IX) (w : World) :
    ∃ Z, (Instr.indexAt t X IX).run P w = .ok Z w ∧ Rel E v Z := by
  unfold indexAddrC at he
  cases ht : tiOf P t with
  | none => rw [ht] at he; exact absurd he (none_run _ _ _)
  | some ti =>
    rw [ht] at he
    simp only at he
    cases hu : ti.und with
    | slice e =>
      rw [hu] at he
      simp only at he
      have hu' := run_und ht w
      rw [hu] at hu'
      cases hte : tiOf P e with
      | none => rw [hte] at he; exact absurd he (none_run _ _ _)
      | some ei =>
        rw [hte] at he
        simp only [indexSlice] at he
        obtain ⟨k, i, rfl, h1⟩ := onInt_some he
        have := hi.int_of; subst this
        cases x <;> simp only at h1 <;> try (cases h1; done)
        · rename_i b off len cap
          obtain ⟨h2, h3⟩ := cond_some h1
          simp only [Option.some.injEq] at h3
          subst h3
          have hr := inRange_iff h2
          simp only [Rel] at hx
          obtain ⟨p, hp, _, rfl⟩ := hx
          refine ⟨.pointer (some ⟨p.blk, p.base + off + i.toNat * ei.size, none⟩), ?_, ?_⟩
          · simp only [Instr.indexAt, Sem.run_bind, asIntOf, Sem.run_pure, Result.andThen_ok, hu', run_size hte, add_eq, if_pos hr]
          · simp only [Rel]; exact ⟨p, hp, by simp [Nat.add_assoc]⟩
        · rename_i b off len idx
          obtain ⟨h2, h3⟩ := cond_some h1
          simp only [Option.some.injEq] at h3
          subst h3
          have hr := inRange_iff h2
          simp only [Rel] at hx
          obtain ⟨p, hp, _, rfl⟩ := hx
          refine ⟨.pointer (some ⟨p.blk, p.base + off + i.toNat * ei.size, none⟩), ?_, ?_⟩
          · simp only [Instr.indexAt, Sem.run_bind, asIntOf, Sem.run_pure, Result.andThen_ok, hu', run_size hte, add_eq, if_pos hr]
          · simp only [Rel]; exact ⟨p, hp, by simp [Nat.add_assoc]⟩
    | array n e =>
      rw [hu] at he
      simp only at he
      have hu' := run_und ht w
      rw [hu] at hu'
      cases hte : tiOf P e with
      | none => rw [hte] at he; exact absurd he (none_run _ _ _)
      | some ei =>
        rw [hte] at he
        simp only [indexArr] at he
        obtain ⟨k, i, rfl, h1⟩ := onInt_some he
        have := hi.int_of; subst this
        obtain ⟨b, off, rfl, h2⟩ := onPtr_some h1
        obtain ⟨h3, h4⟩ := cond_some h2
        simp only [Option.some.injEq] at h4
        subst h4
        have hr := inRange_iff h3
        simp only [Rel] at hx
        obtain ⟨p, hp, rfl⟩ := hx
        refine ⟨.pointer (some ⟨p.blk, p.base + off + i.toNat * ei.size, none⟩), ?_, ?_⟩
        · simp only [Instr.indexAt, Sem.run_bind, asIntOf, Sem.run_pure, Result.andThen_ok, hu', run_size hte, add_eq, Instr.sureAddr, if_pos hr]
        · simp only [Rel]; exact ⟨p, hp, by simp [Nat.add_assoc]⟩
    | _ => rw [hu] at he; exact absurd he (none_run _ _ _)

theorem indexC_sound {E : Env} {t : TypeId} {x ix v : V} {X IX : Value} (he : (indexC P t).run x ix = some v) (hx : Rel E x X) (hi : Rel E ix IX) (w : World) :
    ∃ Z, (Instr.index t X IX).run P w = .ok Z w ∧ Rel E v Z := by
  unfold indexC at he
  cases ht : tiOf P t with
  | none => rw [ht] at he; exact absurd he (none_run _ _ _)
  | some ti =>
    rw [ht] at he
    simp only at he
    have hu' := run_und ht w
    cases hu : ti.und with
    | string =>
      rw [hu] at he
      rw [hu] at hu'
      simp only [indexStr] at he
      obtain ⟨k, i, rfl, h1⟩ := onInt_some he
      have := hi.int_of; subst this
      cases x <;> simp only at h1 <;> try (cases h1; done)
      rename_i s
      obtain ⟨h2, h3⟩ := cond_some h1
      have := hx.str_of; subst this
      rw [leB_eq, decide_eq_true_eq] at h2
      cases hg : s[i.toNat]? with
      | none => rw [hg] at h3; cases h3
      | some b =>
        rw [hg] at h3
        simp only [Option.some.injEq] at h3
        subst h3
        have hb : (⟨⟨s⟩⟩ : ByteArray)[i.toNat]? = some b := by
          obtain ⟨hlt, hbe⟩ := List.getElem?_eq_some_iff.1 hg
          rw [getElem?_pos (⟨⟨s⟩⟩ : ByteArray) i.toNat hlt]
          exact congrArg some hbe
        exact ⟨.int .u8 b.toNat, by simp only [Instr.index, Sem.run_bind, asIntOf, Sem.run_pure, Result.andThen_ok, hu', if_pos h2, hb], by simp [Rel]⟩
    | array n e =>
      rw [hu] at he
      rw [hu] at hu'
      simp only at he
      cases hte : tiOf P e with
      | none => rw [hte] at he; exact absurd he (none_run _ _ _)
      | some ei =>
        rw [hte] at he
        simp only [indexAgg] at he
        obtain ⟨k, i, rfl, h1⟩ := onInt_some he
        have := hi.int_of; subst this
        cases x <;> simp only at h1 <;> try (cases h1; done)
        obtain ⟨h2, h3⟩ := cond_some h1
        have hr := inRange_iff h2
        simp only [Rel] at hx
        obtain ⟨a, rfl, hx⟩ := hx
        obtain ⟨Y, hY, hR⟩ := partC_sound hx h3 w
        exact ⟨Y, by simp only [Instr.index, Sem.run_bind, asIntOf, Sem.run_pure, Result.andThen_ok, hu', if_pos hr, run_size hte, hY], hR⟩
    | _ => rw [hu] at he; exact absurd he (none_run _ _ _)

theorem unV_sound {E : Env} {op : UnOp} {x v : V} {X : Value} (he : unV op x = some v) (hx : Rel E x X) (w : World) : ∃ Z, (Op.unary op X).run P w = .ok Z w ∧ Rel E v Z := by
  cases op <;> simp only [unV] at he <;> try (cases he; done)
  · obtain ⟨k, n, rfl, h1⟩ := onInt_some he
    have := hx.int_of; subst this
    simp only [Option.some.injEq] at h1
    subst h1
    exact ⟨_, rfl, by simp [Rel]⟩
  · cases x <;> simp only at he <;> try (cases he; done)
    simp only [Rel] at hx
    subst hx
    simp only [Option.some.injEq] at he
    subst he
    exact ⟨_, rfl, by simp [Rel]⟩

theorem lenOne_sound {E : Env} {t : TypeId} {ti : TI} (ht : tiOf P t = some ti) {x v : V} {X : Value} (he : (lenOne ti.und).run x = some v) (hx : Rel E x X) (ty : TypeId) (rest : List TypeId) (w : World) :
    ∃ Z, (Builtin.len_ (t :: rest).toArray ty #[X]).run P w = .ok Z w ∧ Rel E v Z := by
  have hu' := run_und ht w
  cases hu : ti.und with
  | array n e =>
    rw [hu] at he hu'
    simp only [lenOne, Option.some.injEq] at he
    subst he
    exact ⟨goInt n, by simp [Builtin.len_, hu'], by simp [Rel, goInt]⟩
  | string =>
    rw [hu] at he hu'
    simp only [lenOne] at he
    cases x <;> simp only at he <;> try (cases he; done)
    simp only [Option.some.injEq] at he
    subst he
    rename_i s
    have := hx.str_of; subst this
    exact ⟨goInt (⟨⟨s⟩⟩ : ByteArray).size, by simp [Builtin.len_, hu'], by simp only [Rel, goInt]; rfl⟩
  | slice e =>
    rw [hu] at he hu'
    simp only [lenOne] at he
    cases x <;> simp only at he <;> try (cases he; done)
    all_goals simp only [Option.some.injEq] at he
    all_goals subst he
    all_goals simp only [Rel] at hx
    · obtain ⟨p, hp, _, rfl⟩ := hx
      exact ⟨_, by simp [Builtin.len_, hu']; rfl, by simp [Rel, goInt]⟩
    · obtain ⟨p, hp, _, rfl⟩ := hx
      exact ⟨_, by simp [Builtin.len_, hu']; rfl, by simp [Rel, goInt]⟩
    · obtain ⟨p, hp, _, rfl⟩ := hx
      exact ⟨_, by simp [Builtin.len_, hu']; rfl, by simp [Rel, goInt]⟩
    · subst hx
      exact ⟨_, by simp [Builtin.len_, hu']; rfl, by simp [Rel, goInt]⟩
  | _ => rw [hu] at he; cases he

theorem pickFrom_sound {E : Env} (isMin : Bool) : ∀ (vs : List V) (l : List Value) (k : IntKind) (a : Int) (v : V), RelL E vs l →
    pickFrom (fun b a => if isMin then !Int.leB a b else !Int.leB b a) k a vs = some v → ∀ w, ∃ Z, (l.foldlM (if isMin then Builtin.min2 else Builtin.max2) (.int k a)).run P w = .ok Z w ∧ Rel E v Z
  | [], l, k, a, v, hl, h, w => by
    simp only [RelL] at hl; subst hl
    simp only [pickFrom, Option.some.injEq] at h
    subst h
    exact ⟨_, rfl, by simp [Rel]⟩
  | u :: vs, l, k, a, v, hl, h, w => by
    simp only [RelL] at hl
    obtain ⟨y, ys, rfl, hy, hl⟩ := hl
    simp only [pickFrom] at h
    obtain ⟨k', b, rfl, h1⟩ := onInt_some h
    have := hy.int_of; subst this
    obtain ⟨Z, hZ, hR⟩ := pickFrom_sound isMin vs ys k _ v hl h1 w
    refine ⟨Z, ?_, hR⟩
    rw [List.foldlM_cons, Sem.run_bind]
    cases isMin with
    | true =>
      simp only [if_true, Builtin.min2, Sem.run_pure, Result.andThen_ok, leB_eq] at hZ ⊢
      rw [← hZ]
      by_cases hb : b < a
      · have : ¬ a ≤ b := by omega
        simp [hb, this]
      · have : a ≤ b := by omega
        simp [hb, this]
    | false =>
      simp only [Bool.false_eq_true, if_false, Builtin.max2, Sem.run_pure, Result.andThen_ok, leB_eq] at hZ ⊢
      rw [← hZ]
      by_cases hb : b > a
      · have : ¬ b ≤ a := by omega
        simp [hb, this]
      · have : b ≤ a := by omega
        simp [hb, this]
end
end Go.Proofs.YtpfmfpakbfkfoaaGreatDoor.Am

namespace Go.Proofs.YtpfmfpakbfkfoaaGreatDoor.Am
variable [Lay]
set_option linter.unusedSectionVars false
open Go Go.RowKit

section
variable {P : Program}

theorem gets_length (cs : T V) : ∀ (n off : Nat), (gets cs off n).length = n
  | 0, _ => rfl
  | n + 1, off => by simp [gets, gets_length cs n]

theorem ofVal_cells_length (x : Value) : (ofVal x).cells.length = x.cells.size := by
  cases x with
  | agg cs => simp [ofVal, V.cells, Value.cells]
  | pointer a => cases a <;> rfl
  | slice a n c =>
    cases a with
    | some a => rfl
    | none =>
      simp only [ofVal, ofVal1]
      cases (Nat.beq n 0 && Nat.beq c 0) <;> rfl
  | map r => cases r <;> rfl
  | _ => rfl

theorem bytesV_rel (E : Env) : ∀ s : List UInt8, RelL E (bytesV s) (s.map fun b => Value.int .u8 b.toNat)
  | [] => rfl
  | b :: s => by simp only [bytesV, List.map, RelL]; exact ⟨_, _, rfl, by simp [Rel], bytesV_rel E s⟩

theorem bytesV_length : ∀ s : List UInt8, (bytesV s).length = s.length
  | [] => rfl
  | b :: s => by simp [bytesV, bytesV_length s]

theorem lenV_sound {E : Env} {x : V} {n : Nat} {X : Value} (he : lenV x = some n) (hx : Rel E x X) (w : World) : (Builtin.lenOf X).run P w = .ok n w := by
  cases x <;> simp only [lenV] at he <;> try (cases he; done)
  all_goals simp only [Option.some.injEq] at he
  all_goals subst he
  all_goals simp only [Rel] at hx
  · subst hx; rfl
  · obtain ⟨p, _, _, rfl⟩ := hx; rfl
  · obtain ⟨p, _, _, rfl⟩ := hx; rfl
  · obtain ⟨p, _, _, rfl⟩ := hx; rfl
  · subst hx; rfl

theorem srcAt_sound {w0 : Fr} {E : Env} {h : Heap} {w : World} (s : Sim w0 E h w) {size n off : Nat} {b : Pa} (hpe : ∃ p, E b = some p) {vs : List V} (he : srcAt h size b off n = some vs) :
    ∃ p l, E b = some p ∧ RelL E vs l ∧ vs.length = n * size ∧ (∀ w' : World, w'.heap = w.heap → (loadCells ⟨p.blk, p.base + off, none⟩ (n * size)).run P w' = .ok l.toArray w') := by
  unfold srcAt at he
  obtain ⟨k, cs, p, c, el, fz, h1, hn, hp, hh, hc⟩ := see_sound s hpe he
  obtain ⟨h2, h3⟩ := cond_some h1
  simp only [Option.some.injEq] at h3
  subst h3
  rw [Nat.ble_eq] at h2
  exact ⟨p, _, hp, gets_rel hc _ _ h2, gets_length _ _ _, fun w' hw => run_loadCells (by rw [hw]; exact hh) (by have := hc.1; omega)⟩

theorem srcCells_sound {w0 : Fr} {E : Env} {h : Heap} {w : World} (s : Sim w0 E h w) {size n : Nat} {x : V} {X : Value} {vs : List V} (he : srcCells h size x n = some vs) (hx : Rel E x X) :
    ∃ l, RelL E vs l ∧ vs.length = n * size ∧ (∀ w' : World, w'.heap = w.heap → (Builtin.firstCells size n X).run P w' = .ok l.toArray w') := by
  cases x <;> simp only [srcCells] at he <;> try (cases he; done)
  · rename_i st
    obtain ⟨h1, h2⟩ := cond_some he
    simp only [Bool.and_eq_true, Nat.beq_eq, Nat.ble_eq] at h1
    simp only [Option.some.injEq] at h2
    subst h2
    have := hx.str_of; subst this
    refine ⟨_, bytesV_rel E _, by rw [bytesV_length, h1.1]; simp; omega, fun w' _ => ?_⟩
    simp only [Builtin.firstCells, Sem.run_pure]
    congr 1
    apply Array.ext'
    simp
  · simp only [Rel] at hx
    obtain ⟨q, hq, _, rfl⟩ := hx
    obtain ⟨p, l, hp, hl, hn, hr⟩ := srcAt_sound (P := P) s ⟨q, hq⟩ he
    rw [hp] at hq; cases hq
    exact ⟨l, hl, hn, fun w' hw => by simp only [Builtin.firstCells]; exact hr w' hw⟩
  · simp only [Rel] at hx
    obtain ⟨q, hq, _, rfl⟩ := hx
    obtain ⟨p, l, hp, hl, hn, hr⟩ := srcAt_sound (P := P) s ⟨q, hq⟩ he
    rw [hp] at hq; cases hq
    exact ⟨l, hl, hn, fun w' hw => by simp only [Builtin.firstCells]; exact hr w' hw⟩
  · obtain ⟨h1, h2⟩ := cond_some he
    rw [Nat.beq_eq] at h1
    subst h1
    simp only [Option.some.injEq] at h2
    subst h2
    simp only [Rel] at hx
    obtain ⟨q, hq, _, rfl⟩ := hx
    exact ⟨[], rfl, by simp, fun w' _ => by simp [Builtin.firstCells, loadCells, loadCellsFrom]⟩
  · obtain ⟨h1, h2⟩ := cond_some he
    rw [Nat.beq_eq] at h1
    subst h1
    simp only [Option.some.injEq] at h2
    subst h2
    simp only [Rel] at hx
    subst hx
    exact ⟨[], rfl, by simp, fun w' _ => by simp [Builtin.firstCells]⟩

/-- a new block with room behind its cells -/
theorem newGrow_sound {w0 : Fr} {E : Env} {h h' : Heap} {w : World} (s : Sim w0 E h w) {vs : List V} {l : List Value} (hl : RelL E vs l) {esz : Nat} {st : Bool} (he : newGrow h vs esz st = some h')
    {cap : Nat} {rest : Array Value} {el : TypeId} {fz : Nat × Nat} (hcap : cap * esz ≤ (l.toArray ++ rest).size) (hfz : (l.toArray ++ rest).size ≤ fz.1 ∨ fz.2 ≤ fz.1) (hst : st = false → fz = (0, 0))
    {w' : World} (hw : w'.heap = w.heap.push (.cells (l.toArray ++ rest) el fz)) (hos : w'.os = w.os) (ht : w'.tape = w.tape) (ho : w'.output = w.output) :
    ∃ E', E.le E' ∧ E' (pa h.next) = some ⟨w.heap.size, 0, cap⟩ ∧ Sim w0 E' h' w' := by
  unfold newGrow at he
  obtain ⟨hc, he⟩ := cond_some he
  simp only [Bool.and_eq_true, Nat.ble_eq] at hc
  simp only [Option.some.injEq] at he
  subst he
  have hnone := s.fresh h.next (Nat.le_refl _)
  have hle : E.le (E.put (pa h.next) ⟨w.heap.size, 0, cap⟩) := Env.le_put hnone
  have hput : E.put (pa h.next) ⟨w.heap.size, 0, cap⟩ (pa h.next) = some ⟨w.heap.size, 0, cap⟩ := by unfold Env.put; rw [if_pos rfl]
  have hlen := hl.length
  have := fresh_cells (RelL.mono hle _ _ hl) hc.1 rest
  refine ⟨_, hle, hput, Sim.same (s.alloc (o := .cells (l.toArray ++ rest) el fz) cap ?_) hw hos ht ho⟩
  exact ⟨hc.1, _, _, el, fz, hput, s.frame.size, by simp, hfz, hst, fun _ => by simpa using hcap, this⟩

theorem Sim.kill {w0 : Fr} {E : Env} {h : Heap} {w : World} (s : Sim w0 E h w) {b : Pa} {p : Pl} (hp : E b = some p) : Sim w0 E (h.set b .dead) w := by
  refine ⟨fun b' hpd => ?_, fun b' k' hk' => ?_, fun b1 b2 p1 p2 h1 h2 e1 e2 hbb => ?_, fun i hi => s.fresh i hi, s.frame, s.laid, fun b' p' n cs st h1 e1 => by
    rw [Heap.get_set] at h1
    by_cases c1 : b = b'
    · rw [if_pos c1] at h1; cases h1
    · rw [if_neg c1] at h1; exact s.base _ _ _ _ _ h1 e1⟩
  · rw [Heap.get_set]
    by_cases hb : b = b'
    · rw [if_pos hb]; trivial
    · rw [if_neg hb]; exact s.blk b' hpd
  · obtain ⟨q1, q2, q3⟩ := s.pen b' k' hk'
    refine ⟨?_, q2, q3⟩
    rw [Heap.get_set, if_neg (fun e => by subst e; rw [hp] at q2; cases q2)]
    exact q1
  · rw [Heap.get_set] at h1 h2
    by_cases c1 : b = b1
    · rw [if_pos c1] at h1; cases h1
    · by_cases c2 : b = b2
      · rw [if_pos c2] at h2; cases h2
      · rw [if_neg c1] at h1; rw [if_neg c2] at h2
        exact s.inj b1 b2 p1 p2 h1 h2 e1 e2 hbb

/-- the outcome of what gives a value -/
def Gives (w0 : Fr) (P : Program) (E : Env) (w : World) (m : Sem Value) (v : V) (h' : Heap) : Prop :=
  ∃ Z w' E', m.run P w = .ok Z w' ∧ E.le E' ∧ Rel E' v Z ∧ Sim w0 E' h' w'

theorem Gives.plain {w0 : Fr} {E : Env} {h : Heap} {w : World} (s : Sim w0 E h w) {m : Sem Value} {v : V} {Z : Value} (h1 : m.run P w = .ok Z w) (h2 : Rel E v Z) : Gives w0 P E w m v h :=
  ⟨Z, w, E, h1, Env.le.refl E, h2, s⟩

/-! Append. -/
/-- the arguments' types -/
structure AppTypes (P : Program) (t u e : TypeId) (size bytes : Nat) : Prop where
  ut : ∀ w, (underlying t).run P w = .ok (.slice e) w
  uu : ∃ d, (∀ w, (underlying u).run P w = .ok d w) ∧ ∀ k, d ≠ .int k
  sz : ∀ w, (sizeOf e).run P w = .ok size w
  by_ : ∀ w, ∃ i, (typeInfo e).run P w = .ok i w ∧ i.bytes = bytes
  zr : ∃ x : Value, (∀ w, (zeroValue e).run P w = .ok x w) ∧ x.cells.size = size
  pos : 1 ≤ size
  small : bytes ≤ 4096

/-- an append that finds room -/
theorem run_append_in {t u e : TypeId} {size bytes : Nat} (H : AppTypes P t u e size bytes) {A : Option Addr} {sLen sCap n : Nat} {X ty} {l : List Value} {w w' : World}
    (hn : (Builtin.lenOf X).run P w = .ok n w) (hsrc : (Builtin.firstCells size n X).run P w = .ok l.toArray w) (hroom : sLen + n ≤ sCap)
    (hst : ∀ a, A = some a → (storeCells (a.add (sLen * size)) l).run P w = .ok () w') (hnone : A = none → w' = w) :
    (Builtin.append_ #[t, u] ty #[.slice A sLen sCap, X]).run P w = .ok (.slice A (sLen + n) sCap) w' := by
  obtain ⟨d, hd, hk⟩ := H.uu
  cases A with
  | none =>
    have := hnone rfl; subst this
    simp [Builtin.append_, H.ut, hd, H.sz, hn, hroom, hsrc]
  | some a =>
    have := hst a rfl
    simp [Builtin.append_, H.ut, hd, H.sz, hn, hroom, hsrc, this]

/-- one that finds none -/
theorem run_append_out {t u e : TypeId} {size bytes : Nat} (H : AppTypes P t u e size bytes) {A : Option Addr} {sLen sCap n : Nat} {X ty} {l old : List Value} {w : World}
    (hn : (Builtin.lenOf X).run P w = .ok n w) (hsrc : ∀ w' : World, w'.heap = w.heap → (Builtin.firstCells size n X).run P w' = .ok l.toArray w')
    (hold : ∀ w' : World, w'.heap = w.heap → (Builtin.firstCells size sLen (.slice A sLen sCap)).run P w' = .ok old.toArray w') (hroom : ¬ sLen + n ≤ sCap) (hsmall : sLen + n ≤ top)
    (ho : old.length = sLen * size) (hl : l.length = n * size) :
    ∃ cap rest w', sLen + n ≤ cap ∧ cap * size ≤ ((old ++ l).toArray ++ rest).size ∧
      (Builtin.append_ #[t, u] ty #[.slice A sLen sCap, X]).run P w = .ok (.slice (some ⟨w.heap.size, 0, none⟩) (sLen + n) cap) w' ∧
      w'.heap = w.heap.push (.cells ((old ++ l).toArray ++ rest) e) ∧ w'.os = w.os ∧ w'.tape = w.tape ∧ w'.output = w.output := by
  obtain ⟨d, hd, hk⟩ := H.uu
  obtain ⟨i, hi, hib⟩ := H.by_ w
  obtain ⟨z, hz, hzs⟩ := H.zr
  have hti : P.info? e = some i := by
    simp only [typeInfo, Sem.run_bind, run_program, Result.andThen_ok] at hi
    cases hq : P.info? e with
    | none => rw [hq] at hi; simp at hi
    | some j => rw [hq] at hi; simp at hi; rw [hi]
  have hi' : ∀ w', (typeInfo e).run P w' = .ok i w' := fun w' => run_typeInfo_some hti w'
  have h48 : ¬ (281474976710656 < Builtin.nextslicecap (sLen + n) sCap * i.bytes) := by
    have h1 : sCap < sLen + n := by omega
    have := growslice_fits (bytes := i.bytes) h1 (by
      rw [hib]
      have h2 : (sLen + n) * bytes ≤ top * 4096 := Nat.mul_le_mul hsmall H.small
      unfold top at h2
      omega)
    omega
  have hb0 : ¬ (9223372036854775807 < ((sLen : Int) + (n : Int))) := by unfold top at hsmall; omega
  let q : Question := .appendCap (sLen + n) sCap e
  let cap := q.cut (w.tape w.drawn q)
  have hcap : sLen + n ≤ cap := by show sLen + n ≤ (sLen + n) + _; omega
  refine ⟨cap, Builtin.zeroCells z.cells (cap - (sLen + n)), w.drew.alloc (.cells ((old ++ l).toArray ++ Builtin.zeroCells z.cells (cap - (sLen + n))) e), hcap, ?_, ?_, rfl, rfl, rfl, rfl⟩
  · simp only [Array.size_append, List.size_toArray, List.length_append, ho, hl]
    have : (Builtin.zeroCells z.cells (cap - (sLen + n))).size = (cap - (sLen + n)) * size := by simp [Builtin.zeroCells, hzs]
    rw [this, ← Nat.add_mul, ← Nat.add_mul]
    exact Nat.mul_le_mul_right _ (by omega)
  · have f1 := hsrc w.drew rfl
    have f2 := hold w.drew rfl
    simp [Builtin.append_, H.ut, hd, H.sz, hn, hroom, hi', h48, hb0, Question.forced, f1, f2, hz, newRow]
    refine ⟨rfl, ?_⟩
    have e1 : (old ++ l).toArray = old.toArray ++ l.toArray := by simp
    rw [e1, Array.append_assoc]

theorem cond_val {c : Bool} {x : OR} {v : V} {h : Heap} (he : (bif c then x else .fail) = OR.val v h) : c = true ∧ x = .val v h := by
  cases c with
  | false => cases he
  | true => exact ⟨rfl, he⟩

theorem appV_sound {w0 : Fr} {E : Env} {h h' : Heap} {w : World} (s : Sim w0 E h w) {t u e : TypeId} {size bytes : Nat} (H : AppTypes P t u e size bytes) {x y v : V} {X Y : Value} {ty : TypeId}
    (he : appV size x y h = .val v h') (hx : Rel E x X) (hy : Rel E y Y) : Gives w0 P E w (Builtin.append_ #[t, u] ty #[X, Y]) v h' := by
  unfold appV at he
  cases hlen : lenV y with
  | none => rw [hlen] at he; cases he
  | some n =>
    rw [hlen] at he
    simp only at he
    cases hsrc : srcCells h size y n with
    | none => rw [hsrc] at he; cases he
    | some new =>
      rw [hsrc] at he
      simp only at he
      obtain ⟨hnt, he1⟩ := cond_val he
      clear he
      have he := he1
      clear he1
      rw [Nat.ble_eq] at hnt
      have hn := lenV_sound (P := P) hlen hy w
      obtain ⟨l, hl, hll, hrun⟩ := srcCells_sound (P := P) s hsrc hy
      have hlL : l.length = n * size := by rw [hl.length, hll]
      cases x <;> simp only at he <;> try (cases he; done)
      · -- a slice of known capacity
        rename_i b off len cap
        simp only [Rel] at hx
        obtain ⟨p, hp, hlc, rfl⟩ := hx
        simp only [appKnown] at he
        cases hroom : Nat.ble (len + n) cap with
        | true =>
          rw [hroom] at he
          simp only [cond_true] at he
          rw [Nat.ble_eq] at hroom
          cases hlay : lay h b (off + len * size) new with
          | none => rw [hlay] at he; cases he
          | some h1 =>
          rw [hlay] at he
          simp only [OR.val.injEq] at he
          obtain ⟨rfl, rfl⟩ := he
          obtain ⟨w', hst, hs'⟩ := lay_sound (P := P) s hl hlay hp
          refine ⟨_, w', E, run_append_in H hn (hrun w rfl) hroom (fun a ha => ?_) (fun ha => by cases ha), Env.le.refl E, ?_, hs'⟩
          · cases ha
            rw [add_eq, Nat.add_assoc]
            exact hst
          · simp only [Rel]; exact ⟨p, hp, hroom, rfl⟩
        | false =>
          rw [hroom] at he
          simp only [cond_false] at he
          have hroom' : ¬ len + n ≤ cap := by rw [← Nat.ble_eq, hroom]; simp
          obtain ⟨hb, he⟩ := cond_val he
          simp only [Bool.and_eq_true, Nat.ble_eq] at hb
          cases hold : srcAt h size b off len with
          | none => rw [hold] at he; cases he
          | some old =>
          rw [hold] at he
          simp only at he
          cases hgrow : newGrow h (old ++ new) size false with
          | none => rw [hgrow] at he; cases he
          | some h1 =>
          rw [hgrow] at he
          simp only [OR.val.injEq] at he
          obtain ⟨rfl, rfl⟩ := he
          obtain ⟨q, lo, hq, hlo, hol, hor⟩ := srcAt_sound (P := P) s ⟨p, hp⟩ hold
          rw [hp] at hq; cases hq
          obtain ⟨c, rest, w', k1, k2, k3, k4, k5, k6, k7⟩ := run_append_out (P := P) H (A := some ⟨p.blk, p.base + off, none⟩) (sLen := len) (sCap := cap) (ty := ty) hn hrun
            (fun w' hw => by simp only [Builtin.firstCells]; exact hor w' hw) hroom' hb.1 (by rw [hlo.length, hol]) hlL
          obtain ⟨E', g1, g2, g3⟩ := newGrow_sound (w' := w') (fz := (0, 0)) s (hlo.append hl) hgrow k2 (.inr (Nat.le_refl _)) (fun _ => rfl) k4 k5 k6 k7
          refine ⟨_, w', E', k3, g1, ?_, g3⟩
          simp only [Rel]
          exact ⟨_, g2, by simp only; omega, by simp⟩
      · -- one that was appended to
        rename_i b off len idx
        have hx0 := hx
        simp only [Rel] at hx
        obtain ⟨p, hp, hic, rfl⟩ := hx
        simp only [appGrown] at he
        cases hn0 : Nat.beq n 0 with
        | true =>
          rw [hn0] at he
          simp only [cond_true] at he
          cases he
          rw [Nat.beq_eq] at hn0
          subst hn0
          have hl0 : l = [] := by cases l with | nil => rfl | cons _ _ => simp at hlL
          subst hl0
          refine ⟨_, w, E, run_append_in (w' := w) H hn (hrun w rfl) (by omega) (fun a _ => rfl) (fun ha => by cases ha), Env.le.refl E, ?_, s⟩
          simpa using hx0
        | false =>
          rw [hn0] at he
          simp only [cond_false] at he
          have hbk := s.at hp
          cases hg : h.get b with
          | dead => rw [hg] at he; cases he
          | view _ _ => rw [hg] at he; cases he
          | iter _ _ => rw [hg] at he; cases he
          | mp _ _ => rw [hg] at he; cases he
          | lp _ => rw [hg] at he; cases he
          | dfr => rw [hg] at he; cases he
          | mset _ => rw [hg] at he; cases he
          | mit _ _ _ _ => rw [hg] at he; cases he
          | cells N cs esz st =>
            rw [hg] at he hbk
            simp only [Blk.on] at he
            obtain ⟨hb, he⟩ := cond_val he
            simp only [Bool.and_eq_true, Nat.ble_eq, Nat.beq_eq] at hb
            obtain ⟨⟨hesz, hnt2, hones⟩, hoff⟩ := hb
            cases hold : srcAt h size b off len with
            | none => rw [hold] at he; cases he
            | some old =>
            rw [hold] at he
            simp only at he
            cases hgrow : newGrow (h.set b .dead) (old ++ new) size st with
            | none => rw [hgrow] at he; cases he
            | some h1 =>
            rw [hgrow] at he
            simp only [OR.val.injEq] at he
            obtain ⟨rfl, rfl⟩ := he
            obtain ⟨q, lo, hq, hlo, hol, hor⟩ := srcAt_sound (P := P) s ⟨p, hp⟩ hold
            rw [hp] at hq; cases hq
            obtain ⟨hN, q, c, el, fz, e1, hB, hh, hfz, hst, hcap, hok⟩ := hbk
            rw [hp] at e1; cases e1
            have hpos := H.pos
            have hcap := hcap (by omega)
            rw [hesz] at hcap
            have sk := s.kill hp
            by_cases hroom : len + n ≤ p.cap - idx
            · -- in place
              have hlt := (Array.getElem?_eq_some_iff.1 hh).1
              have hidx : (idx + len + n) * size ≤ p.cap * size := Nat.mul_le_mul_right _ (by omega)
              have hbound : p.base + off + len * size + 0 + l.length ≤ c.size := by
                rw [hlL, hoff]
                have : (idx + len + n) * size = idx * size + len * size + n * size := by rw [Nat.add_mul, Nat.add_mul]
                omega
              have hst2 := run_storeCells (P := P) hlt el fz (p.base + off + len * size) l c 0 (ones_mem hones hl) hbound hfz
              rw [withC_same hh, Nat.add_zero] at hst2
              have hrunA := run_append_in (P := P) (w' := withC w p.blk (layC c (p.base + off + len * size) l) el fz) (A := some ⟨p.blk, p.base + off, none⟩) (ty := ty) H hn (hrun w rfl) hroom
                (fun a ha => by cases ha; rw [add_eq]; exact hst2) (fun ha => by cases ha)
              unfold newGrow at hgrow
              obtain ⟨hc, hgrow⟩ := cond_some hgrow
              simp only [Bool.and_eq_true, Nat.ble_eq] at hc
              simp only [Option.some.injEq] at hgrow
              subst hgrow
              have hnone := s.fresh h.next (Nat.le_refl _)
              have hle : E.le (E.put (pa h.next) ⟨p.blk, p.base + off, p.cap - idx⟩) := Env.le_put hnone
              have hput : E.put (pa h.next) ⟨p.blk, p.base + off, p.cap - idx⟩ (pa h.next) = some ⟨p.blk, p.base + off, p.cap - idx⟩ := by unfold Env.put; rw [if_pos rfl]
              refine ⟨_, _, _, hrunA, hle, ?_, Sim.add (p := ⟨p.blk, p.base + off, p.cap - idx⟩) sk (by rw [withC_size]; exact Nat.le_refl _) (fun j _ hj => withC_other _ _ _ hj) hB (fun b' q' hown hq' heq => ?_) rfl rfl rfl (fun _ _ _ e => by injection e with _ _ e3; omega) ?_⟩
              · simp only [Rel]
                exact ⟨_, hput, by simp only; omega, by simp⟩
              · rw [Heap.get_set] at hown
                by_cases hbb : b = b'
                · rw [if_pos hbb] at hown; cases hown
                · rw [if_neg hbb] at hown
                  exact hbb (s.inj b b' p q' (by rw [hg]; rfl) hown hp hq' heq.symm)
              · have hlen2 : (old ++ new).length = (len + n) * size := by rw [List.length_append, hol, hll, Nat.add_mul]
                have hexp : (len + n) * size = len * size + n * size := Nat.add_mul _ _ _
                refine ⟨hc.1, _, _, el, fz, hput, hB, withC_heap hlt _ _ _, by rw [layC_size]; exact hfz, hst, fun _ => ?_, ?_⟩
                · rw [layC_size]
                  simp only
                  have : idx * size + (p.cap - idx) * size = p.cap * size := by rw [← Nat.add_mul]; congr 1; omega
                  omega
                · refine ⟨by rw [layC_size, hlen2, Nat.add_mul]; simp only; omega, fun i y hi hy => ?_⟩
                  rw [puts_get _ _ _ _ (by omega) (by omega), if_pos (by omega), Nat.sub_zero]
                  rw [layC_get _ _ _ _ (by omega)] at hy
                  simp only at hy
                  by_cases hio : i < len * size
                  · rw [if_neg (by omega)] at hy
                    rw [List.getElem?_append_left (by omega)]
                    have hgo := hor w rfl
                    have hreal := run_loadCells (P := P) (w := w) (off := p.base + off) (n := len * size) hh (by omega)
                    rw [hreal] at hgo
                    simp only [Result.ok.injEq, and_true] at hgo
                    have hlo2 : lo = (c.toList.drop (p.base + off)).take (len * size) := by
                      have := congrArg Array.toList hgo
                      simpa using this.symm
                    obtain ⟨y', hy', hr⟩ := hlo.get i old[i] (List.getElem?_eq_getElem (by omega))
                    rw [List.getElem?_eq_getElem (by omega)]
                    rw [hlo2] at hy'
                    rw [List.getElem?_take_of_lt (by omega), List.getElem?_drop] at hy'
                    simp only [Array.getElem?_toList] at hy'
                    rw [hy] at hy'
                    cases hy'
                    exact Rel.mono hle _ _ hr
                  · rw [if_pos (by omega)] at hy
                    rw [List.getElem?_append_right (by omega)]
                    have e3 : p.base + off + i - (p.base + off + len * size) = i - old.length := by omega
                    rw [e3] at hy
                    have hlt3 : i - old.length < new.length := by omega
                    obtain ⟨y', hy', hr⟩ := hl.get (i - old.length) new[i - old.length] (List.getElem?_eq_getElem hlt3)
                    rw [hy] at hy'; cases hy'
                    rw [List.getElem?_eq_getElem hlt3]
                    exact Rel.mono hle _ _ hr
            · -- elsewhere
              obtain ⟨c2, rest, w', k1, k2, k3, k4, k5, k6, k7⟩ := run_append_out (P := P) H (A := some ⟨p.blk, p.base + off, none⟩) (sLen := len) (sCap := p.cap - idx) (ty := ty) hn hrun
                (fun w' hw => by simp only [Builtin.firstCells]; exact hor w' hw) hroom hnt2 (by rw [hlo.length, hol]) hlL
              obtain ⟨E', g1, g2, g3⟩ := newGrow_sound (w' := w') (fz := (0, 0)) sk (hlo.append hl) hgrow k2 (.inr (Nat.le_refl _)) (fun _ => rfl) k4 k5 k6 k7
              refine ⟨_, w', E', k3, g1, ?_, g3⟩
              simp only [Rel]
              exact ⟨_, g2, by simp only; omega, by simp⟩
      · -- nil
        simp only [Rel] at hx
        subst hx
        simp only [appNil] at he
        cases hn0 : Nat.beq n 0 with
        | true =>
          rw [hn0] at he
          simp only [cond_true] at he
          cases he
          rw [Nat.beq_eq] at hn0
          subst hn0
          exact Gives.plain s (run_append_in (w' := w) H hn (hrun w rfl) (by omega) (fun a ha => by cases ha) (fun _ => rfl)) (by simp [Rel])
        | false =>
          rw [hn0] at he
          simp only [cond_false] at he
          have hn1 : ¬ n = 0 := by intro e; subst e; simp at hn0
          cases hgrow : newGrow h new size false with
          | none => rw [hgrow] at he; cases he
          | some h1 =>
          rw [hgrow] at he
          simp only [OR.val.injEq] at he
          obtain ⟨rfl, rfl⟩ := he
          obtain ⟨c, rest, w', k1, k2, k3, k4, k5, k6, k7⟩ := run_append_out (P := P) H (A := none) (sLen := 0) (sCap := 0) (old := []) (ty := ty) hn hrun
            (fun w' _ => by simp [Builtin.firstCells]) (by omega) (by omega) (by simp) hlL
          obtain ⟨E', g1, g2, g3⟩ := newGrow_sound (w' := w') (fz := (0, 0)) s hl hgrow k2 (.inr (Nat.le_refl _)) (fun _ => rfl) k4 k5 k6 k7
          refine ⟨_, w', E', k3, g1, ?_, g3⟩
          simp only [Rel]
          exact ⟨_, g2, by simp only; omega, by simp⟩
end
end Go.Proofs.YtpfmfpakbfkfoaaGreatDoor.Am

namespace Go.Proofs.YtpfmfpakbfkfoaaGreatDoor.Am
variable [Lay]
set_option linter.unusedSectionVars false
open Go Go.RowKit

section
variable {P : Program}

theorem OR.of_val {h h' : Heap} {x : Option V} {v : V} (he : OR.of h x = .val v h') : x = some v ∧ h' = h := by
  cases x with
  | none => cases he
  | some y => simp only [OR.of, OR.val.injEq] at he; exact ⟨by rw [he.1], he.2.symm⟩

/-! Copy. -/
theorem copyV_sound {w0 : Fr} {E : Env} {h h' : Heap} {w : World} (s : Sim w0 E h w) {t e : TypeId} {rest : List TypeId} {size : Nat} (ht : ∀ w, (underlying t).run P w = .ok (.slice e) w) (hsz : ∀ w, (sizeOf e).run P w = .ok size w)
    {x y v : V} {X Y : Value} {ty : TypeId} (he : copyV size x y h = .val v h') (hx : Rel E x X) (hy : Rel E y Y) : Gives w0 P E w (Builtin.copy_ (t :: rest).toArray ty #[X, Y]) v h' := by
  unfold copyV at he
  cases hl1 : lenV x with
  | none => rw [hl1] at he; cases he
  | some dl =>
    rw [hl1] at he
    simp only at he
    cases hl2 : lenV y with
    | none => rw [hl2] at he; cases he
    | some sl =>
      rw [hl2] at he
      simp only at he
      have hls := lenV_sound (P := P) hl2 hy w
      cases hsrc : srcCells h size y (Nat.min sl dl) with
      | none => rw [hsrc] at he; cases he
      | some cells =>
        rw [hsrc] at he
        simp only at he
        obtain ⟨l, hl, hll, hrun⟩ := srcCells_sound (P := P) s hsrc hy
        cases x <;> simp only at he <;> try (cases he; done)
        · rename_i b off len cap
          simp only [lenV, Option.some.injEq] at hl1
          subst hl1
          simp only [Rel] at hx
          obtain ⟨p, hp, _, rfl⟩ := hx
          cases hlay : lay h b off cells with
          | none => rw [hlay] at he; cases he
          | some h1 =>
            rw [hlay] at he
            simp only [OR.val.injEq] at he
            obtain ⟨rfl, rfl⟩ := he
            obtain ⟨w', hst, hs'⟩ := lay_sound (P := P) s hl hlay hp
            exact ⟨goInt (Nat.min sl len), w', E, by simp [Builtin.copy_, ht, hls, hsz, hrun w rfl, hst], Env.le.refl E, by simp [Rel, goInt], hs'⟩
        · rename_i b off len idx
          simp only [lenV, Option.some.injEq] at hl1
          subst hl1
          simp only [Rel] at hx
          obtain ⟨p, hp, _, rfl⟩ := hx
          cases hlay : lay h b off cells with
          | none => rw [hlay] at he; cases he
          | some h1 =>
            rw [hlay] at he
            simp only [OR.val.injEq] at he
            obtain ⟨rfl, rfl⟩ := he
            obtain ⟨w', hst, hs'⟩ := lay_sound (P := P) s hl hlay hp
            exact ⟨goInt (Nat.min sl len), w', E, by simp [Builtin.copy_, ht, hls, hsz, hrun w rfl, hst], Env.le.refl E, by simp [Rel, goInt], hs'⟩
        · simp only [lenV, Option.some.injEq] at hl1
          subst hl1
          simp only [Rel] at hx
          subst hx
          simp only [OR.val.injEq] at he
          obtain ⟨rfl, rfl⟩ := he
          have hr0 := hrun w rfl
          have e0 : Nat.min sl 0 = 0 := Nat.min_zero _
          rw [e0] at hr0
          exact Gives.plain (Z := goInt (Nat.min sl 0)) s (by simp [Builtin.copy_, ht, hls, hsz, hr0]) (by simp [Rel, goInt])

/-! Conversions. -/
theorem uint8s_sound {E : Env} : ∀ {vs : List V} {l : List Value} {bs : List UInt8}, RelL E vs l → uint8s vs = some bs →
    ∀ (acc : ByteArray) (w : World), (do
      let mut s := acc
      for c in l do
        let .int .u8 n := c | stuck "bytesToString: byte expected"
        s := s.push (UInt8.ofNat n.toNat)
      pure s : Sem ByteArray).run P w = .ok ⟨⟨acc.data.toList ++ bs⟩⟩ w
  | [], l, bs, hl, h, acc, w => by
    simp only [RelL] at hl; subst hl
    simp only [uint8s, Option.some.injEq] at h
    subst h
    simp
  | v :: vs, l, bs, hl, h, acc, w => by
    simp only [RelL] at hl
    obtain ⟨y, ys, rfl, hy, hl⟩ := hl
    obtain ⟨n, rfl⟩ : ∃ n, v = .int .u8 n := by
      cases v with
      | int k n => cases k <;> first | exact ⟨n, rfl⟩ | (simp [uint8s] at h; done)
      | _ => simp [uint8s] at h
    simp only [uint8s] at h
    have := hy.int_of; subst this
    cases hu : uint8s vs with
    | none => rw [hu] at h; cases h
    | some l0 =>
      rw [hu] at h
      simp only [Option.some.injEq] at h
      subst h
      have ih := uint8s_sound hl hu (acc.push (UInt8.ofNat n.toNat)) w
      have e : (acc.push (UInt8.ofNat n.toNat)).data.toList = acc.data.toList ++ [UInt8.ofNat n.toNat] := by simp
      rw [e, List.append_assoc] at ih
      simp only [List.forIn_cons]
      simpa using ih

theorem strAt_sound {w0 : Fr} {E : Env} {h h' : Heap} {w : World} (s : Sim w0 E h w) {b : Pa} (hpe : ∃ p, E b = some p) {off len cap : Nat} {v : V} (he : strAt b off len h = .val v h') :
    h' = h ∧ ∃ p bs, E b = some p ∧ v = .str bs ∧ (Conv.bytesToString (.slice (some ⟨p.blk, p.base + off, none⟩) len cap)).run P w = .ok (.string ⟨⟨bs⟩⟩) w := by
  unfold strAt at he
  obtain ⟨p0, hp0⟩ := hpe
  have hb := s.at hp0
  have key : ∀ n cs p c el fz, E b = some p → w.heap[p.blk]? = some (.cells c el fz) → CellsOk E n p.base cs c → (bif Nat.ble (off + len) n then (match uint8s (gets cs off len) with
      | some l => OR.val (.str l) h
      | none => .fail) else .fail) = .val v h' → h' = h ∧ ∃ p bs, E b = some p ∧ v = .str bs ∧ (Conv.bytesToString (.slice (some ⟨p.blk, p.base + off, none⟩) len cap)).run P w = .ok (.string ⟨⟨bs⟩⟩) w := by
    intro n cs p c el fz hp hh hc he
    obtain ⟨h1, h2⟩ := cond_val he
    rw [Nat.ble_eq] at h1
    cases hu : uint8s (gets cs off len) with
    | none => rw [hu] at h2; cases h2
    | some bs =>
      rw [hu] at h2
      simp only [OR.val.injEq] at h2
      obtain ⟨rfl, rfl⟩ := h2
      refine ⟨rfl, p, bs, hp, rfl, ?_⟩
      have hl := run_loadCells (P := P) (off := p.base + off) (n := len) hh (by have := hc.1; omega)
      have hr := uint8s_sound (P := P) (gets_rel hc len off h1) hu ByteArray.empty w
      simp only [Conv.bytesToString, Sem.run_bind, hl, Result.andThen_ok]
      simp only [Sem.run_bind] at hr
      rw [← Array.forIn_toList]
      simp only
      generalize hq : (Sem.run P (forIn ((c.toList.drop (p.base + off)).take len) ByteArray.empty _) w) = q at hr ⊢
      cases q with
      | ok a w' =>
        simp only [Result.andThen_ok, Sem.run_pure, Result.ok.injEq] at hr ⊢
        obtain ⟨rfl, rfl⟩ := hr
        simp
      | halt _ _ => simp at hr
  cases hg : h.get b with
  | dead => rw [hg] at he; cases he
  | iter _ _ => rw [hg] at he; cases he
  | mp _ _ => rw [hg] at he; cases he
  | lp _ => rw [hg] at he; cases he
  | dfr => rw [hg] at he; cases he
  | mset _ => rw [hg] at he; cases he
  | mit _ _ _ _ => rw [hg] at he; cases he
  | view n cs =>
    rw [hg] at he hb
    obtain ⟨_, p, c, el, fz, h1, _, h3, h7⟩ := hb
    exact key n cs p c el fz h1 h3 h7 he
  | cells n cs esz st =>
    rw [hg] at he hb
    obtain ⟨_, p, c, el, fz, h1, _, h3, _, _, _, h7⟩ := hb
    exact key n cs p c el fz h1 h3 h7 he
end
end Go.Proofs.YtpfmfpakbfkfoaaGreatDoor.Am

namespace Go.Proofs.YtpfmfpakbfkfoaaGreatDoor.Am
variable [Lay]
set_option linter.unusedSectionVars false
open Go Go.RowKit

section
variable {P : Program}

theorem push_modify {α : Type} (a : Array α) (x : α) (f : α → α) : (a.push x).modify a.size f = a.push (f x) := by
  apply Array.ext_getElem?
  intro i
  rw [Array.getElem?_modify]
  simp only [Array.getElem?_push]
  by_cases h : a.size = i
  · subst h; simp
  · rw [if_neg h]
    have h' : ¬ i = a.size := fun e => h e.symm
    simp [h']

theorem convBytes_sound {w0 : Fr} {E : Env} {h h' : Heap} {w : World} (s : Sim w0 E h w) {x v : V} {X : Value} {e : TypeId} (he : convBytes.run x h = .val v h') (hx : Rel E x X) :
    ∃ st, X = .string st ∧ Gives w0 P E w (Conv.stringToBytes e st) v h' := by
  simp only [convBytes] at he
  cases x <;> simp only at he <;> try (cases he; done)
  rename_i st
  have := hx.str_of; subst this
  refine ⟨_, rfl, ?_⟩
  cases hg : newGrow h (bytesV st) 1 true with
  | none => rw [hg] at he; cases he
  | some h1 =>
    rw [hg] at he
    simp only [OR.val.injEq] at he
    obtain ⟨rfl, rfl⟩ := he
    let q : Question := .appendCap st.length 0 e
    let cap := q.cut (w.tape w.drawn q)
    have hcap : st.length ≤ cap := by show st.length ≤ st.length + _; omega
    let l : List Value := st.map fun b => Value.int .u8 b.toNat
    let rest : Array Value := Array.replicate (cap - st.length) (.int .u8 0)
    have hll : l.length = st.length := by simp [l]
    have hsize : (l.toArray ++ rest).size = cap := by simp [l, rest]; omega
    let w' : World := { w.drew with heap := w.heap.push (.cells (l.toArray ++ rest) e (cap, cap + 1)) }
    have hrun : (Conv.stringToBytes e ⟨⟨st⟩⟩).run P w = .ok (.slice (some ⟨w.heap.size, 0, none⟩) st.length cap) w' := by
      have hsz : (⟨⟨st⟩⟩ : ByteArray).size = st.length := rfl
      have hmap : ((⟨⟨st⟩⟩ : ByteArray).data.map fun b => (Value.int .u8 b.toNat : Value)) = l.toArray := by simp [l]
      simp only [Conv.stringToBytes, Sem.run_bind, run_choose, Question.forced, hsz, Bool.false_eq_true, if_false, Result.andThen_ok, newRow, run_newObj, hmap, markStringish, run_shape, Sem.run_pure]
      have hshape : ∀ (t : Nat → Question → Nat) (d : Nat) (os : Os) (o : Array (Nat × ByteArray)), World.shape? { heap := w.heap.push (.cells (l.toArray ++ Array.replicate ((Question.appendCap st.length 0 e).cut (w.tape w.drawn (.appendCap st.length 0 e)) - st.length) (.int .u8 0)) e), tape := t, drawn := d, os := os, output := o } w.heap.size = some (e, cap) := by
        intro t d os o
        simp only [World.shape?]
        rw [Array.getElem?_push, if_pos rfl]
        simp only
        rw [show (l.toArray ++ Array.replicate ((Question.appendCap st.length 0 e).cut (w.tape w.drawn (.appendCap st.length 0 e)) - st.length) (Value.int .u8 0)).size = cap from hsize]
      rw [hshape]
      simp only [run_freeze, Result.andThen_ok, World.freeze, Nat.one_ne_zero, if_false, push_modify]
      rfl
    have hrel := bytesV_rel E st
    obtain ⟨E', g1, g2, g3⟩ := newGrow_sound (w' := w') (el := e) (fz := (cap, cap + 1)) (cap := cap) (rest := rest) s hrel hg (by rw [hsize]; omega) (.inl (by rw [hsize]; exact Nat.le_refl _)) (fun h => by cases h) rfl rfl rfl rfl
    refine ⟨_, w', E', hrun, g1, ?_, g3⟩
    simp only [Rel]
    exact ⟨_, g2, by simp only; omega, by simp⟩

theorem onInt_val {v : V} {f : IntKind → Int → OR} {r : V} {h : Heap} (he : v.onInt .fail f = .val r h) : ∃ k n, v = .int k n ∧ f k n = .val r h := by
  cases v <;> simp only [V.onInt] at he <;> first
    | (cases he; done)
    | exact ⟨_, _, rfl, he⟩

theorem bytes_eta (b : ByteArray) : (⟨⟨b.data.toList⟩⟩ : ByteArray) = b := by cases b; rfl

theorem convC_sound {w0 : Fr} {E : Env} {h h' : Heap} {w : World} (s : Sim w0 E h w) {t u : TypeId} {x v : V} {X : Value} (he : (convC P t u).run x h = .val v h') (hx : Rel E x X) :
    Gives w0 P E w (convert t u X) v h' := by
  unfold convC at he
  cases ht : tiOf P t with
  | none => rw [ht] at he; cases he
  | some si =>
    cases hu : tiOf P u with
    | none => rw [ht, hu] at he; cases he
    | some di =>
      rw [ht, hu] at he
      simp only at he
      have r1 := run_und ht
      have r2 := run_und hu
      cases hd : di.und with
      | int k =>
        rw [hd] at he r2
        simp only at he
        cases hq : x.isSym with
        | true =>
          rw [hq] at he
          simp only [cond_true] at he
          cases hk : seekC k x Lay.cnv with
          | none => rw [hk] at he; cases he
          | some v1 =>
            rw [hk] at he
            simp only [OR.of, OR.val.injEq] at he
            obtain ⟨rfl, rfl⟩ := he
            obtain ⟨j, n, q1, q2⟩ := Lay.fair _ (seekC_mem hk)
            have hx' := Rel.den.mpr hx
            simp only at q1 q2
            rw [q1] at hx'
            have := hx'.int_of; subst this
            exact Gives.plain (Z := .int k (k.wrap n)) s (by simp only [convert, Sem.run_bind, r1, r2, Result.andThen_ok, Conv.intToInt, Sem.run_pure]) (Rel.den.mp (by rw [q2]; simp [Rel]))
        | false =>
        rw [hq] at he
        simp only [cond_false] at he
        obtain ⟨k', n, rfl, h1⟩ := onInt_val he
        simp only [OR.val.injEq] at h1
        obtain ⟨rfl, rfl⟩ := h1
        have := hx.int_of; subst this
        exact Gives.plain (Z := .int k (k.wrap n)) s (by simp only [convert, Sem.run_bind, r1, r2, Result.andThen_ok, Conv.intToInt, Sem.run_pure]) (by simp [Rel])
      | string =>
        rw [hd] at he r2
        simp only at he
        have plain : ∀ (X' : Value), (match x with
            | .str s => OR.val (.str s) h
            | .int _ n => .val (.str (Utf8.encode n).data.toList) h
            | _ => .fail) = .val v h' → Gives w0 P E w (convert t u X) v h' := by
          intro _ he
          cases x <;> simp only at he <;> try (cases he; done)
          · simp only [OR.val.injEq] at he
            obtain ⟨rfl, rfl⟩ := he
            have := hx.int_of; subst this
            rename_i k n
            refine Gives.plain (Z := .string (Utf8.encode n)) s (by simp only [convert, Sem.run_bind, r1, r2, Result.andThen_ok, Conv.intToString, Sem.run_pure]) ?_
            simp only [Rel, bytes_eta]
          · simp only [OR.val.injEq] at he
            obtain ⟨rfl, rfl⟩ := he
            have := hx.str_of; subst this
            exact Gives.plain s (by simp only [convert, Sem.run_bind, r1, r2, Result.andThen_ok, Sem.run_pure]) hx
        cases hs : si.und with
        | slice e =>
          rw [hs] at he r1
          simp only at he
          cases hte : tiOf P e with
          | none => rw [hte] at he; cases he
          | some ei =>
            rw [hte] at he
            simp only at he
            cases hei : ei.und with
            | int ke =>
              rw [hei] at he
              cases ke <;> simp only at he <;> try (cases he; done)
              have r3 := run_und hte
              rw [hei] at r3
              simp only [convStr] at he
              cases x <;> simp only at he <;> try (cases he; done)
              · rename_i b off len cap
                simp only [Rel] at hx
                obtain ⟨p, hp, _, rfl⟩ := hx
                obtain ⟨rfl, q, bs, hq, rfl, hrun⟩ := strAt_sound (P := P) (cap := cap) s ⟨p, hp⟩ he
                rw [hp] at hq; cases hq
                exact Gives.plain s (by simp only [convert, Sem.run_bind, r1, r2, r3, Result.andThen_ok]; exact hrun) (by simp [Rel])
              · rename_i b off len idx
                simp only [Rel] at hx
                obtain ⟨p, hp, _, rfl⟩ := hx
                obtain ⟨rfl, q, bs, hq, rfl, hrun⟩ := strAt_sound (P := P) (cap := p.cap - idx) s ⟨p, hp⟩ he
                rw [hp] at hq; cases hq
                exact Gives.plain s (by simp only [convert, Sem.run_bind, r1, r2, r3, Result.andThen_ok]; exact hrun) (by simp [Rel])
              · simp only [OR.val.injEq] at he
                obtain ⟨rfl, rfl⟩ := he
                simp only [Rel] at hx
                obtain ⟨ta, tc, rfl⟩ := hx
                exact Gives.plain (Z := .string ByteArray.empty) s (by simp only [convert, Sem.run_bind, r1, r2, r3, Result.andThen_ok]; rfl) (by simp only [Rel]; rfl)
              · simp only [OR.val.injEq] at he
                obtain ⟨rfl, rfl⟩ := he
                simp only [Rel] at hx
                subst hx
                exact Gives.plain (Z := .string ByteArray.empty) s (by simp only [convert, Sem.run_bind, r1, r2, r3, Result.andThen_ok]; rfl) (by simp only [Rel]; rfl)
            | _ => rw [hei] at he; cases he
        | _ => rw [hs] at he; exact plain X he
      | slice e =>
        rw [hd] at he r2
        simp only at he
        cases hte : tiOf P e with
        | none => rw [hte] at he; cases he
        | some ei =>
          rw [hte] at he
          simp only at he
          cases hei : ei.und with
          | int ke =>
            rw [hei] at he
            cases ke <;> simp only at he <;> try (cases he; done)
            have r3 := run_und hte
            rw [hei] at r3
            obtain ⟨st, rfl, Z, w', E', g1, g2⟩ := convBytes_sound (P := P) (e := e) s he hx
            exact ⟨Z, w', E', by simp only [convert, Sem.run_bind, r1, r2, r3, Result.andThen_ok]; exact g1, g2⟩
          | _ => rw [hei] at he; cases he
      | _ => rw [hd] at he; cases he

/-! Literals. -/
def RelP (E : Env) : List (Nat × V) → List (Nat × Value) → Prop
  | [], l => l = []
  | (i, v) :: vs, l => ∃ y ys, l = (i, y) :: ys ∧ Rel E v y ∧ RelP E vs ys

theorem fillAt_rel {E : Env} : ∀ {vs : List V} {l : List Value} {cs : List V} {a : Array Value} (off : Nat), RelL E vs l → RelL E cs a.toList → ∀ (k : Nat),
    RelL E (fillAt cs (off + k) vs) ((l.zipIdx k).foldl (fun cs (c, j) => cs.setIfInBounds (off + j) c) a).toList
  | [], l, cs, a, off, h, hc, k => by simp only [RelL] at h; subst h; simpa [fillAt] using hc
  | v :: vs, l, cs, a, off, h, hc, k => by
    simp only [RelL] at h
    obtain ⟨y, ys, rfl, hy, h⟩ := h
    simp only [fillAt, List.zipIdx_cons, List.foldl_cons]
    have := fillAt_rel (cs := cs.set (off + k) v) (a := a.setIfInBounds (off + k) y) off h (by simpa using hc.set (off + k) hy) (k + 1)
    exact this

theorem fillV_sound {E : Env} {place : Nat → Option (Nat × Nat)} : ∀ {ps : List (Nat × V)} {qs : List (Nat × Value)} {cs out : List V} {a : Array Value}, RelP E ps qs → RelL E cs a.toList →
    fillV place cs ps = some out → ∃ b, Instr.fill place a qs = some b ∧ RelL E out b.toList
  | [], qs, cs, out, a, hp, hc, h => by
    simp only [RelP] at hp; subst hp
    simp only [fillV, Option.some.injEq] at h
    subst h
    exact ⟨a, rfl, hc⟩
  | (i, v) :: ps, qs, cs, out, a, hp, hc, h => by
    simp only [RelP] at hp
    obtain ⟨y, ys, rfl, hy, hp⟩ := hp
    simp only [fillV] at h
    cases hpl : place i with
    | none => rw [hpl] at h; cases h
    | some q =>
      obtain ⟨off, size⟩ := q
      rw [hpl] at h
      simp only at h
      obtain ⟨h1, h2⟩ := cond_some h
      simp only [Bool.and_eq_true, Nat.beq_eq, Nat.ble_eq] at h1
      have hl := hy.cells (fun e => by subst e; simp [V.good] at h1)
      have hlen := hl.length
      have hcl := hc.length
      have hsz : y.cells.size = size := by have : y.cells.toList.length = v.cells.length := hlen; simp at this; omega
      have hoff : ¬ off + y.cells.size > a.size := by simp at hcl; omega
      have hf := fillAt_rel (a := a) off hl hc 0
      obtain ⟨b, hb1, hb2⟩ := fillV_sound (a := y.cells.zipIdx.foldl (fun cs (c, j) => cs.setIfInBounds (off + j) c) a) hp (by
        have e : y.cells.zipIdx.foldl (fun cs (c, j) => cs.setIfInBounds (off + j) c) a = (y.cells.toList.zipIdx 0).foldl (fun cs (c, j) => cs.setIfInBounds (off + j) c) a := by
          rw [← Array.foldl_toList]; simp
        rw [e]; exact hf) h2
      refine ⟨b, ?_, hb2⟩
      simp only [Instr.fill, hpl]
      rw [if_neg (by simp only [ne_eq, Bool.or_eq_true, decide_eq_true_eq, not_or]; exact ⟨fun e => e hsz, hoff⟩)]
      exact hb1
end
end Go.Proofs.YtpfmfpakbfkfoaaGreatDoor.Am

namespace Go.Proofs.YtpfmfpakbfkfoaaGreatDoor.Am
variable [Lay]
set_option linter.unusedSectionVars false
open Go Go.RowKit

section
variable {P : Program}

theorem run_mapM_list {α β : Type} (g : α → Sem β) (k : α → β) (w : World) : ∀ (l : List α), (∀ x ∈ l, (g x).run P w = .ok (k x) w) → (l.mapM g).run P w = .ok (l.map k) w
  | [], _ => by simp
  | x :: l, h => by
    rw [List.mapM_cons, Sem.run_bind, h x (by simp)]
    simp only [Result.andThen_ok, Sem.run_bind, run_mapM_list g k w l (fun y hy => h y (by simp [hy])), Sem.run_pure, List.map]

theorem buildC_sound {E : Env} {t : TypeId} {ps : List (Nat × V)} {qs : List (Nat × Value)} {v : V} (hp : RelP E ps qs) (he : (buildC P t).run ps = some v) (w : World) :
    ∃ Z, (Instr.build t qs.toArray).run P w = .ok Z w ∧ Rel E v Z := by
  unfold buildC at he
  cases ht : tiOf P t with
  | none => rw [ht] at he; cases he
  | some ti =>
    rw [ht] at he
    simp only at he
    cases hz : ti.zero with
    | none => rw [hz] at he; cases he
    | some z =>
      rw [hz] at he
      simp only at he
      obtain ⟨x, hx, hxr, hzx⟩ := run_zero (P := P) ht hz E w
      have hu := run_und ht w
      have hzc : RelL E z.cells x.cells.toList := by
        rw [hzx]
        have : ∀ y : Value, RelL E (ofVal y).cells y.cells.toList := by
          intro y
          cases y with
          | agg cs => simp only [ofVal, V.cells, Value.cells]; exact ofVals_rel E _
          | pointer a => cases a <;> simp [ofVal, ofVal1, V.cells, Value.cells, RelL, Rel]
          | slice a n c =>
            have := ofVal_rel E (.slice a n c)
            cases a with
            | some a => simp [ofVal, ofVal1, V.cells, Value.cells, RelL, Rel]
            | none =>
              simp only [ofVal, ofVal1] at this ⊢
              cases hb : (Nat.beq n 0 && Nat.beq c 0) with
              | false => simp [V.cells, Value.cells, RelL, Rel]
              | true => rw [hb] at this; simpa [V.cells, Value.cells, RelL] using this
          | map r => cases r <;> simp [ofVal, ofVal1, V.cells, Value.cells, RelL, Rel]
          | tuple cs =>
            have := ofVal_rel E (.tuple cs)
            simp only [ofVal, V.cells, Value.cells, RelL] at this ⊢
            exact ⟨_, _, rfl, this, rfl⟩
          | _ => simp [ofVal, ofVal1, V.cells, Value.cells, RelL, Rel]
        exact this x
      cases hund : ti.und with
      | struct fs =>
        rw [hund] at he hu
        simp only at he
        cases hk : fieldsKnown P fs.toList with
        | false => rw [hk] at he; cases he
        | true =>
          rw [hk] at he
          simp only [cond_true] at he
          cases hf : fillV (fieldPlaceD P fs) z.cells ps with
          | none => rw [hf] at he; cases he
          | some cs =>
            rw [hf] at he
            simp only [Option.some.injEq] at he
            subst he
            let k : Field → Nat × Nat := fun f => (f.offset, ((tiOf P f.type).map (·.size)).getD 0)
            have hmap : (fs.mapM fun f => do pure (f.offset, ← sizeOf f.type) : Sem (Array (Nat × Nat))).run P w = .ok (fs.map k) w := by
              rw [Array.mapM_eq_mapM_toList, Sem.run_map, run_mapM_list _ k w fs.toList]
              · simp only [Result.andThen_ok]
                congr 1
                apply Array.ext'
                simp
              · intro f hf2
                have := List.all_eq_true.1 hk f hf2
                cases htf : tiOf P f.type with
                | none => rw [htf] at this; simp at this
                | some fi => simp only [Sem.run_bind, run_size htf, Result.andThen_ok, Sem.run_pure, k, htf]; rfl
            have hplace : (fun i => (fs.map k)[i]?) = fieldPlaceD P fs := by
              funext i
              simp only [fieldPlaceD, Array.getElem?_map]
              cases hi : fs[i]? with
              | none => rfl
              | some f =>
                have hmem : f ∈ fs.toList := by
                  have := List.mem_of_getElem? (l := fs.toList) (i := i) (a := f) (by simpa using hi)
                  exact this
                have := List.all_eq_true.1 hk f hmem
                cases htf : tiOf P f.type with
                | none => rw [htf] at this; simp at this
                | some fi => simp [k, htf]
            obtain ⟨b, hb1, hb2⟩ := fillV_sound (a := x.cells) hp hzc hf
            refine ⟨.agg b, ?_, by simp only [Rel]; exact ⟨b, rfl, hb2⟩⟩
            simp only [Instr.build, Sem.run_bind, hx, hu, Result.andThen_ok, hmap]
            rw [hplace]
            simp only [hb1, Sem.run_pure]
      | array n e =>
        rw [hund] at he hu
        simp only at he
        cases hte : tiOf P e with
        | none => rw [hte] at he; cases he
        | some ei =>
          rw [hte] at he
          simp only at he
          cases hf : fillV (fun i => some (i * ei.size, ei.size)) z.cells ps with
          | none => rw [hf] at he; cases he
          | some cs =>
            rw [hf] at he
            simp only [Option.some.injEq] at he
            subst he
            obtain ⟨b, hb1, hb2⟩ := fillV_sound (a := x.cells) hp hzc hf
            refine ⟨.agg b, ?_, by simp only [Rel]; exact ⟨b, rfl, hb2⟩⟩
            simp only [Instr.build, Sem.run_bind, hx, hu, Result.andThen_ok, run_size hte, hb1, Sem.run_pure]
      | _ => rw [hund] at he; cases he

theorem repeat_rel {E : Env} {z : List V} {l : Array Value} (hz : RelL E z l.toList) : ∀ n : Nat, RelL E (repeatV z n) ((Array.range (n * l.size)).map (l[· % l.size]!)).toList := by
  have hself : (List.range l.size).map (l[· % l.size]!) = l.toList := by
    apply List.ext_getElem?
    intro i
    simp only [List.getElem?_map]
    by_cases hi : i < l.size
    · rw [List.getElem?_range hi]
      simp only [Option.map, Nat.mod_eq_of_lt hi, Array.getElem?_toList]
      rw [getElem!_pos l i hi, Array.getElem?_eq_getElem hi]
    · rw [List.getElem?_eq_none (by simp; omega), Array.getElem?_toList, Array.getElem?_eq_none (by omega)]
      rfl
  intro n
  simp only [Array.toList_map, Array.toList_range]
  induction n with
  | zero => simp [repeatV, RelL]
  | succ n ih =>
    have e : (n + 1) * l.size = l.size + n * l.size := by rw [Nat.add_mul]; omega
    rw [e, List.range_add, List.map_append, hself, List.map_map]
    have e2 : ((l[· % l.size]!) ∘ fun x => l.size + x) = (l[· % l.size]!) := by
      funext x
      simp
    rw [e2]
    exact hz.append ih

theorem zero_cells {E : Env} {t : TypeId} {ti : TI} {z : V} (ht : tiOf P t = some ti) (hz : ti.zero = some z) (w : World) : ∃ x : Value, (∀ w, (zeroValue t).run P w = .ok x w) ∧ RelL E z.cells x.cells.toList ∧ x.cells.size = z.cells.length := by
  obtain ⟨x, hx, _, hzx⟩ := run_zero (P := P) ht hz E w
  obtain ⟨i, h1, _, _, _, _, h6⟩ := tiOf_spec ht
  rw [hz] at h6
  have hzi : ∃ y, i.zero = some y := by cases hq : i.zero with | none => rw [hq] at h6; cases h6 | some y => exact ⟨y, rfl⟩
  obtain ⟨y, hy⟩ := hzi
  have hrun : ∀ w, (zeroValue t).run P w = .ok y w := fun w => by simp only [zeroValue, Sem.run_bind, run_typeInfo_some h1, Result.andThen_ok, hy]; rfl
  have hxy : y = x := by have := hrun w; rw [hx] at this; simp at this; exact this.symm
  subst hxy
  refine ⟨_, hrun, ?_, ?_⟩
  · rw [hzx]
    have : ∀ y : Value, RelL E (ofVal y).cells y.cells.toList := by
      intro y
      cases y with
      | agg cs => simp only [ofVal, V.cells, Value.cells]; exact ofVals_rel E _
      | pointer a => cases a <;> simp [ofVal, ofVal1, V.cells, Value.cells, RelL, Rel]
      | slice a n c =>
        have := ofVal_rel E (.slice a n c)
        cases a with
        | some a => simp [ofVal, ofVal1, V.cells, Value.cells, RelL, Rel]
        | none =>
          simp only [ofVal, ofVal1] at this ⊢
          cases hb : (Nat.beq n 0 && Nat.beq c 0) with
          | false => simp [V.cells, Value.cells, RelL, Rel]
          | true => rw [hb] at this; simpa [V.cells, Value.cells, RelL] using this
      | map r => cases r <;> simp [ofVal, ofVal1, V.cells, Value.cells, RelL, Rel]
      | tuple cs =>
        have := ofVal_rel E (.tuple cs)
        simp only [ofVal, V.cells, Value.cells, RelL] at this ⊢
        exact ⟨_, _, rfl, this, rfl⟩
      | _ => simp [ofVal, ofVal1, V.cells, Value.cells, RelL, Rel]
    exact this _
  · rw [hzx, ofVal_cells_length]

theorem buildSliceC_sound {w0 : Fr} {E : Env} {h h' : Heap} {w : World} (s : Sim w0 E h w) {t : TypeId} {n : Nat} {ps : List (Nat × V)} {qs : List (Nat × Value)} {v : V} (hp : RelP E ps qs) (he : (buildSliceC P t n).run ps h = .val v h') :
    Gives w0 P E w (Instr.buildSlice t n qs.toArray) v h' := by
  unfold buildSliceC at he
  cases ht : tiOf P t with
  | none => rw [ht] at he; cases he
  | some ti =>
    rw [ht] at he
    simp only at he
    have hu := run_und ht
    cases hund : ti.und with
    | slice e =>
      rw [hund] at he hu
      simp only at he
      cases hte : tiOf P e with
      | none => rw [hte] at he; cases he
      | some ei =>
        rw [hte] at he
        simp only at he
        cases hz : ei.zero with
        | none => rw [hz] at he; cases he
        | some z =>
          rw [hz] at he
          simp only at he
          cases hc : (Nat.ble (n * ei.size) 1000000 && Nat.beq z.cells.length ei.size) with
          | false => rw [hc] at he; cases he
          | true =>
            rw [hc] at he
            simp only [cond_true] at he
            simp only [Bool.and_eq_true, Nat.ble_eq, Nat.beq_eq] at hc
            cases hf : fillV (fun i => some (i * ei.size, ei.size)) (repeatV z.cells n) ps with
            | none => rw [hf] at he; cases he
            | some cs =>
              rw [hf] at he
              simp only at he
              cases hn : newCells h cs with
              | none => rw [hn] at he; cases he
              | some h1 =>
                rw [hn] at he
                simp only [OR.val.injEq] at he
                obtain ⟨rfl, rfl⟩ := he
                obtain ⟨x, hx, hxr, hxs⟩ := zero_cells (P := P) (E := E) hte hz w
                have hxs' : x.cells.size = ei.size := by rw [hxs, hc.2]
                have hrep := repeat_rel hxr n
                rw [hxs'] at hrep
                obtain ⟨b, hb1, hb2⟩ := fillV_sound (a := (Array.range (n * ei.size)).map (x.cells[· % x.cells.size]!)) hp (by rw [hxs']; exact hrep) hf
                obtain ⟨E', g1, g2, g3, g4⟩ := newCells_sound (P := P) s hb2 hn e
                refine ⟨.slice (some ⟨w.heap.size, 0, none⟩) n n, _, E', ?_, g1, ?_, g4⟩
                · have hlim : ¬ 16777216 < n * ei.size := by omega
                  have hg3 : (newRow e b).run P w = .ok ⟨w.heap.size, 0, none⟩ { w with heap := w.heap.push (.cells b e) } := by simpa using g3
                  by_cases h0 : n * ei.size = 0
                  · have hb1' : Instr.fill (fun i => some (i * ei.size, ei.size)) ((Array.range (n * ei.size)).map ((#[] : Array Value)[· % 0]!)) qs = some b := by
                      have e1 : (Array.range (n * ei.size)).map ((#[] : Array Value)[· % 0]!) = (Array.range (n * ei.size)).map (x.cells[· % x.cells.size]!) := by
                        rw [h0]; simp
                      rw [e1]; exact hb1
                    have hb1'' : Instr.fill (fun i => some (i * ei.size, ei.size)) ((Array.range (n * ei.size)).map (fun x => (#[] : Array Value)[x % (#[] : Array Value).size]!)) qs = some b := hb1'
                    simp only [Instr.buildSlice, Sem.run_bind, hu, Result.andThen_ok, run_size hte, Sem.run_ite]
                    rw [if_neg hlim]
                    simp only [Sem.run_pure, Result.andThen_ok, if_pos h0]
                    rw [hb1'']
                    simp only [Sem.run_bind, hg3, Result.andThen_ok, Sem.run_pure]
                  · simp only [Instr.buildSlice, Sem.run_bind, hu, Result.andThen_ok, run_size hte, Sem.run_ite]
                    rw [if_neg hlim]
                    simp only [Sem.run_pure, Result.andThen_ok, if_neg h0, hx]
                    rw [hb1]
                    simp only [Sem.run_bind, hg3, Result.andThen_ok, Sem.run_pure]
                · simp only [Rel]
                  exact ⟨_, g2, Nat.le_refl _, by simp⟩
    | _ => rw [hund] at he; cases he

theorem makeSliceC_sound {w0 : Fr} {E : Env} {h h' : Heap} {w : World} (s : Sim w0 E h w) {t : TypeId} {x y v : V} {X Y : Value} (hx : Rel E x X) (hy : Rel E y Y) (he : (makeSliceC P t).run x y h = .val v h') :
    Gives w0 P E w (Instr.makeSlice t X Y) v h' := by
  unfold makeSliceC at he
  cases ht : tiOf P t with
  | none => rw [ht] at he; cases he
  | some ti =>
    rw [ht] at he
    simp only at he
    have hu := run_und ht
    cases hund : ti.und with
    | slice e =>
      rw [hund] at he hu
      simp only at he
      cases hte : tiOf P e with
      | none => rw [hte] at he; cases he
      | some ei =>
        rw [hte] at he
        simp only at he
        cases hz : ei.zero with
        | none => rw [hz] at he; cases he
        | some z =>
          rw [hz] at he
          simp only at he
          cases hby : Nat.ble ei.bytes 4096 with
          | false => rw [hby] at he; cases he
          | true =>
            rw [hby] at he
            simp only [cond_true, makeSliceV] at he
            obtain ⟨k1, l, rfl, he1⟩ := onInt_val he
            obtain ⟨k2, c, rfl, he2⟩ := onInt_val he1
            have := hx.int_of; subst this
            have := hy.int_of; subst this
            obtain ⟨hc, he3⟩ := cond_val he2
            simp only [Bool.and_eq_true, leB_eq, decide_eq_true_eq, Nat.beq_eq] at hc
            obtain ⟨⟨h0, h1, h2⟩, h3⟩ := hc
            rw [Nat.ble_eq] at hby
            cases hn : newCells h (repeatV z.cells c.toNat) with
            | none => rw [hn] at he3; cases he3
            | some hh =>
              rw [hn] at he3
              simp only [OR.val.injEq] at he3
              obtain ⟨rfl, rfl⟩ := he3
              obtain ⟨xz, hxz, hxr, hxs⟩ := zero_cells (P := P) (E := E) hte hz w
              have hxs' : xz.cells.size = ei.size := by rw [hxs, h3]
              have hrep := repeat_rel hxr c.toNat
              obtain ⟨E', g1, g2, g3, g4⟩ := newCells_sound (P := P) s hrep hn e
              obtain ⟨i, hi, hib⟩ := run_bytes (P := P) hte w
              have hwl : IntKind.i64.wrap l = l := by simp only [IntKind.wrap, IntKind.bits, IntKind.signed]; simp; omega
              have hwc : IntKind.i64.wrap c = c := by simp only [IntKind.wrap, IntKind.bits, IntKind.signed]; simp; omega
              have hmul : (ei.bytes : Int) * c ≤ 4096 * 1000000 := by
                have hb : (ei.bytes : Int) ≤ 4096 := by omega
                have := Int.mul_le_mul_of_nonneg_right (c := c) hb (by omega)
                omega
              refine ⟨.slice (some ⟨w.heap.size, 0, none⟩) l.toNat c.toNat, _, E', ?_, g1, ?_, g4⟩
              · have hg3 := g3
                simp only [Array.toArray_toList] at hg3
                have c1 : ¬ c < 0 := by omega
                have c2 : ¬ ((ei.bytes : Int) * c > 281474976710656) := by omega
                have c3 : ¬ l < 0 := by omega
                have c4 : ¬ l > c := by omega
                have same : (if c.toNat * ei.size = 0 then (Array.range (c.toNat * ei.size)).map (fun x => (#[] : Array Value)[x % (#[] : Array Value).size]!) else (Array.range (c.toNat * ei.size)).map (fun x => xz.cells[x % xz.cells.size]!)) =
                    (Array.range (c.toNat * xz.cells.size)).map (xz.cells[· % xz.cells.size]!) := by
                  rw [hxs']
                  by_cases hq : c.toNat * ei.size = 0
                  · rw [hq]; simp
                  · rw [if_neg hq]
                simp only [Instr.makeSlice, Sem.run_bind, hu, Result.andThen_ok, asInt, asIntOf, Sem.run_pure, hi, hwl, hwc, hib]
                rw [if_neg (by simp only [Bool.or_eq_true, decide_eq_true_eq, not_or]; exact ⟨⟨⟨c1, c2⟩, c3⟩, c4⟩)]
                simp only [Result.andThen_ok, Sem.run_bind, run_askRoom, run_size hte]
                by_cases hq : c.toNat * ei.size = 0
                · rw [if_pos hq] at same
                  rw [if_pos hq]
                  simp only [Sem.run_pure, Result.andThen_ok, Sem.run_bind, same, hg3, Array.toArray_toList]
                · rw [if_neg hq] at same
                  rw [if_neg hq]
                  simp only [Sem.run_pure, Result.andThen_ok, Sem.run_bind, hxz, same, hg3, Array.toArray_toList]
              · simp only [Rel]
                exact ⟨_, g2, by omega, by simp⟩
    | _ => rw [hund] at he; cases he
end
end Go.Proofs.YtpfmfpakbfkfoaaGreatDoor.Am

namespace Go.Proofs.YtpfmfpakbfkfoaaGreatDoor.Am
variable [Lay]
set_option linter.unusedSectionVars false
set_option linter.unusedVariables false
set_option linter.unusedSimpArgs false
open Go Go.RowKit

/-! Pointers, held one against the other. -/
theorem Pa.eqB_eq : ∀ {p q : Pa}, Pa.eqB p q = true → p = q
  | .z, .z, _ => rfl
  | .l p, .l q, h => by rw [Pa.eqB_eq (p := p) (q := q) h]
  | .r p, .r q, h => by rw [Pa.eqB_eq (p := p) (q := q) h]
  | .z, .l _, h => by cases h
  | .z, .r _, h => by cases h
  | .l _, .z, h => by cases h
  | .l _, .r _, h => by cases h
  | .r _, .z, h => by cases h
  | .r _, .l _, h => by cases h

theorem Pa.eqB_refl : ∀ p : Pa, Pa.eqB p p = true
  | .z => rfl
  | .l p => Pa.eqB_refl p
  | .r p => Pa.eqB_refl p

section
variable {P : Program}

theorem plainC_at {w0 : Fr} {E : Env} {h : Heap} {w : World} (s : Sim w0 E h w) {b : Pa} {p : Pl} (hp : E b = some p) (hb : (h.get b).plainC = true) : (h.get b).own = true ∧ ∃ c t, w.heap[p.blk]? = some (.cells c t (0, 0)) := by
  have hk := s.at hp
  cases hg : h.get b <;> rw [hg] at hb <;> try (cases hb; done)
  rename_i n cs esz st
  rw [hg] at hk
  obtain ⟨_, p', c, el, fz, e1, _, hheap, _, hst, _⟩ := hk
  rw [hp] at e1; cases e1
  have : st = false := by simpa [Blk.plainC] using hb
  rw [hst this] at hheap
  exact ⟨rfl, c, el, hheap⟩

theorem ptrT_spec {t : TypeId} (h : ptrT P t = true) : ∃ e j, P.underlying t = some (.pointer e) ∧ P.info? e = some j ∧ j.size ≠ 0 := by
  unfold ptrT at h
  cases ht : tiOf P t with
  | none => rw [ht] at h; cases h
  | some ti =>
    rw [ht] at h
    simp only at h
    cases hu : ti.und <;> rw [hu] at h <;> simp only at h <;> try (cases h; done)
    rename_i e
    cases he : tiOf P e with
    | none => rw [he] at h; cases h
    | some ei =>
      rw [he] at h
      simp only at h
      obtain ⟨_, _, h2, _⟩ := tiOf_spec ht
      obtain ⟨j, g1, _, g3, _⟩ := tiOf_spec he
      refine ⟨e, j, by rw [h2, hu], g1, fun e0 => ?_⟩
      rw [g3, e0] at h
      cases h

theorem ptrT_und {t : TypeId} (h : ptrT P t = true) (w : World) : ∃ e, (underlying t).run P w = .ok (.pointer e) w := by
  obtain ⟨e, _, h1, _⟩ := ptrT_spec h
  exact ⟨e, run_underlying_some h1 w⟩

theorem run_checkKey_ptr {t e : TypeId} {w : World} (hu : (underlying t).run P w = .ok (.pointer e) w) (b : Bool) (v : Value) : (Instr.checkKey b 10000 t v).run P w = .ok () w := by
  show (Instr.checkKey b (9999 + 1) t v).run P w = .ok () w
  unfold Instr.checkKey
  rw [Sem.run_bind, hu]
  rfl

theorem ptrEqH_sound {w0 : Fr} {E : Env} {h : Heap} {w : World} (s : Sim w0 E h w) {t : TypeId} (ht : ptrT P t = true) {x y : V} {X Y : Value} {b : Bool} (he : ptrEqH h x y = some b) (hx : Rel E x X) (hy : Rel E y Y) :
    (∃ a c, X = .pointer (some a) ∧ Y = .pointer (some c)) ∧ ∀ d, (Op.equalIn (d + 1) t X Y).run P w = .ok b w := by
  obtain ⟨e, j, hp, hte, hsz⟩ := ptrT_spec ht
  unfold ptrEqH at he
  split at he
  case h_2 => cases he
  rename_i b1 o1
  split at he
  case h_2 => cases he
  rename_i b2 o2
  simp only [Rel] at hx hy
  obtain ⟨p, hp1, rfl⟩ := hx
  obtain ⟨q, hp2, rfl⟩ := hy
  refine ⟨⟨_, _, rfl, rfl⟩, fun d => ?_⟩
  cases heq : Pa.eqB b1 b2 with
  | true =>
    rw [heq] at he
    simp only [cond_true, Option.some.injEq] at he
    have := Pa.eqB_eq heq
    subst this
    rw [hp1] at hp2; cases hp2
    have hb : b = decide (o1 = o2) := by
      rw [← he]
      by_cases h : o1 = o2
      · subst h; simp
      · rw [decide_eq_false h, ← Bool.not_eq_true, Nat.beq_eq]; exact h
    have key : (sameAddr ⟨p.blk, p.base + o1, none⟩ ⟨p.blk, p.base + o2, none⟩).run P w = .ok b w := by
      rw [hb]
      by_cases h : o1 = o2
      · subst h
        simpa using run_sameAddr_same w (⟨p.blk, p.base + o1, none⟩ : Addr)
      · have hne : ((⟨p.blk, p.base + o1, none⟩ : Addr) == ⟨p.blk, p.base + o2, none⟩) = false := by
          rw [beq_eq_false_iff_ne]
          intro e
          injection e with _ e2 _
          omega
        simp [sameAddr, hne, h]
    simp [Op.equalIn, run_underlying hp, sizeOf, typeInfo, hte, hsz, key]
  | false =>
    rw [heq] at he
    simp only [cond_false] at he
    obtain ⟨hc, he⟩ := cond_some he
    simp only [Bool.and_eq_true] at hc
    cases he
    obtain ⟨own1, c1, t1, hh1⟩ := plainC_at s hp1 hc.1
    obtain ⟨own2, c2, t2, hh2⟩ := plainC_at s hp2 hc.2
    have hne : (⟨p.blk, p.base + o1, none⟩ : Addr) ≠ ⟨q.blk, q.base + o2, none⟩ := by
      intro e
      injection e with e1 _ _
      have := s.inj b1 b2 p q own1 own2 hp1 hp2 e1
      subst this
      rw [Pa.eqB_refl] at heq
      cases heq
    simp [Op.equalIn, run_underlying hp, sizeOf, typeInfo, hte, hsz, run_sameAddr_other w hne hh1 hh2]

theorem ptrBin_sound {w0 : Fr} {E : Env} {h : Heap} {w : World} (s : Sim w0 E h w) {op : BinOp} {t : TypeId} {neg : Bool} (hpo : ptrOp P op t = some neg) {x y : V} {ox oy : Operand} {X Y : Value} {b : Bool} (he : ptrEqH h x y = some b) (hx : Rel E x X) (hy : Rel E y Y) :
    ∃ Z, (do eqGuard op t ox oy X Y; binOp op t X Y : Sem Value).run P w = .ok Z w ∧ Rel E (.bool (bif neg then !b else b)) Z := by
  unfold ptrOp at hpo
  have main : ptrT P t = true → ((op = .eql ∧ neg = false) ∨ (op = .neq ∧ neg = true)) → ∃ Z, (do eqGuard op t ox oy X Y; binOp op t X Y : Sem Value).run P w = .ok Z w ∧ Rel E (.bool (bif neg then !b else b)) Z := by
    intro ht hop
    obtain ⟨⟨a, c, rfl, rfl⟩, hrun⟩ := ptrEqH_sound s ht he hx hy
    have hg := fun (o : BinOp) => eqGuard_plain (P := P) (op := o) (t := t) (x := ox) (y := oy) (X := .pointer (some a)) (Y := .pointer (some c)) (by simp) (.inl (by simp)) w
    have e1 : (Op.equal t (.pointer (some a)) (.pointer (some c))).run P w = .ok b w := hrun 9999
    rcases hop with ⟨rfl, rfl⟩ | ⟨rfl, rfl⟩
    · refine ⟨.bool b, ?_, by simp [Rel]⟩
      rw [Sem.run_bind, hg, Result.andThen_ok, binOp_eql (X := .pointer (some a)) True.intro, Sem.run_bind, e1]
      rfl
    · refine ⟨.bool (!b), ?_, by simp [Rel]⟩
      rw [Sem.run_bind, hg, Result.andThen_ok, binOp_neq (X := .pointer (some a)) True.intro, Sem.run_bind, e1]
      rfl
  cases op <;> simp only at hpo <;> try (cases hpo; done)
  · obtain ⟨h1, h2⟩ := cond_some hpo
    cases h2
    exact main h1 (.inl ⟨rfl, rfl⟩)
  · obtain ⟨h1, h2⟩ := cond_some hpo
    cases h2
    exact main h1 (.inr ⟨rfl, rfl⟩)
end
end Go.Proofs.YtpfmfpakbfkfoaaGreatDoor.Am

namespace Go.Proofs.YtpfmfpakbfkfoaaGreatDoor.Am
variable [Lay]
set_option linter.unusedSectionVars false
set_option linter.unusedVariables false
set_option linter.unusedSimpArgs false
open Go Go.RowKit

/-! Maps whose keys are asked of the memory (pointers). -/
section
variable {P : Program}

/-- what an equality of keys has to tell -/
def KeyEqOk (P : Program) (w : World) (E : Env) (kt : TypeId) (e : EqC) : Prop :=
  ∀ k k' K K' b, e.run k k' = some b → Rel E k K → Rel E k' K' → (Op.equal kt K K').run P w = .ok b w ∧ (b = true → K' = K ∧ Instr.sameBits 10000 K K = true)

theorem ptrKey_ok {w0 : Fr} {E : Env} {h : Heap} {w : World} (s : Sim w0 E h w) {kt : TypeId} (ht : ptrT P kt = true) : KeyEqOk P w E kt ⟨ptrEqH h⟩ := by
  intro k k' K K' b he hx hy
  obtain ⟨⟨a, c, rfl, rfl⟩, hrun⟩ := ptrEqH_sound s ht he hx hy
  refine ⟨hrun 9999, fun hb => ?_⟩
  subst hb
  simp only [ptrEqH] at he
  split at he
  case h_2 => cases he
  split at he
  case h_2 => cases he
  rename_i b1 o1 _ b2 o2
  simp only [Rel] at hx hy
  obtain ⟨p, hp1, hx⟩ := hx
  obtain ⟨q, hp2, hy⟩ := hy
  cases heq : Pa.eqB b1 b2 with
  | false =>
    rw [heq] at he
    simp only [cond_false] at he
    obtain ⟨_, he⟩ := cond_some he
    cases he
  | true =>
    rw [heq] at he
    simp only [cond_true, Option.some.injEq] at he
    have := Pa.eqB_eq heq
    subst this
    rw [hp1] at hp2; cases hp2
    have := Nat.eq_of_beq_eq_true he
    subst this
    rw [hx, hy]
    exact ⟨rfl, by simp [Instr.sameBits]⟩

theorem findAsk_sound {w : World} {E : Env} {kt : TypeId} {e : EqC} (hE : KeyEqOk P w E kt e) {k : V} {K : Value} (hk : Rel E k K) : ∀ (es : List ME) (l : List MapEntry) (r : Option V) (i : Nat), findV e k es = some r → MRel E es l →
    ∃ R, (Instr.findAsking kt K l i).run P w = .ok R w ∧ (match r with
      | none => R = none
      | some v => ∃ j Y, R = some (j, Y) ∧ Rel E v Y)
  | [], l, r, i, h, hr => by
    simp only [MRel] at hr
    subst hr
    simp only [findV, Option.some.injEq] at h
    subst h
    exact ⟨none, rfl, rfl⟩
  | m :: ms, l, r, i, h, hr => by
    obtain ⟨en, es, rfl, h1, h2, h3, h4⟩ := hr
    simp only [findV] at h
    cases hs : e.run k m.k with
    | none => rw [hs] at h; cases h
    | some b =>
      rw [hs] at h
      simp only at h
      obtain ⟨q1, q2⟩ := hE _ _ _ _ _ hs hk h1
      cases b with
      | true =>
        simp only [cond_true, Option.some.injEq] at h
        subst h
        exact ⟨some (i, en.val), by simp [Instr.findAsking, q1], i, en.val, rfl, h2⟩
      | false =>
        simp only [cond_false] at h
        obtain ⟨R, g1, g2⟩ := findAsk_sound hE hk ms es r (i + 1) h h4
        exact ⟨R, by simp [Instr.findAsking, q1, g1], g2⟩

theorem putAsk_sound {w : World} {E : Env} {kt : TypeId} {e : EqC} (hE : KeyEqOk P w E kt e) {k v : V} {K X : Value} (hk : Rel E k K) (hv : Rel E v X) (clock : Nat) : ∀ (es : List ME) (l : List MapEntry) (r : List ME × Bool) (i : Nat), putV e k v clock es = some r → MRel E es l →
    (r.2 = true → (Instr.findAsking kt K l i).run P w = .ok none w ∧ MRel E r.1 (l ++ [⟨K, X, clock⟩])) ∧
    (r.2 = false → ∃ j en Y, (Instr.findAsking kt K l i).run P w = .ok (some (i + j, Y)) w ∧ l[j]? = some en ∧ Instr.sameBits 10000 en.key K = true ∧ MRel E r.1 (l.modify j fun en => { en with key := K, val := X }))
  | [], l, r, i, h, hr => by
    simp only [MRel] at hr
    subst hr
    simp only [putV, Option.some.injEq] at h
    subst h
    exact ⟨fun _ => ⟨rfl, _, _, rfl, hk, hv, rfl, rfl⟩, fun h => by cases h⟩
  | m :: ms, l, r, i, h, hr => by
    obtain ⟨en, es, rfl, h1, h2, h3, h4⟩ := hr
    simp only [putV] at h
    cases hs : e.run k m.k with
    | none => rw [hs] at h; cases h
    | some b =>
      rw [hs] at h
      simp only at h
      obtain ⟨q1, q2⟩ := hE _ _ _ _ _ hs hk h1
      cases b with
      | true =>
        simp only [cond_true, Option.some.injEq] at h
        subst h
        obtain ⟨q3, q4⟩ := q2 rfl
        refine ⟨fun h => (by cases h), fun _ => ⟨0, en, en.val, by simp [Instr.findAsking, q1], rfl, by rw [q3]; exact q4, ?_⟩⟩
        exact ⟨_, es, rfl, hk, hv, h3, h4⟩
      | false =>
        simp only [cond_false] at h
        cases hp : putV e k v clock ms with
        | none => rw [hp] at h; cases h
        | some r' =>
          rw [hp] at h
          simp only [Option.some.injEq] at h
          subst h
          obtain ⟨g1, g2⟩ := putAsk_sound hE hk hv clock ms es r' (i + 1) hp h4
          refine ⟨fun h => ?_, fun h => ?_⟩
          · obtain ⟨a1, a2⟩ := g1 h
            exact ⟨by simp [Instr.findAsking, q1, a1], ⟨en, es ++ [⟨K, X, clock⟩], rfl, h1, h2, h3, a2⟩⟩
          · obtain ⟨j, e', Y, a1, a2, a3, a4⟩ := g2 h
            exact ⟨j + 1, e', Y, by simp [Instr.findAsking, q1, a1]; omega, by simpa using a2, a3, ⟨en, _, rfl, h1, h2, h3, a4⟩⟩

/-- findNow tells nothing of pointers: findKey asks -/
theorem run_findKey_ptr {kt : TypeId} {et : TypeId} {w : World} (hu : (underlying kt).run P w = .ok (.pointer et) w) {K : Value} {l : List MapEntry} {R : Option (Nat × Value)} (h : (Instr.findAsking kt K l 0).run P w = .ok R w) :
    (Instr.findKey kt K l).run P w = .ok R w := by
  cases l with
  | nil =>
    simp only [Instr.findAsking, Sem.run_pure] at h
    cases h
    simp [Instr.findKey, hu, Instr.findNow]
  | cons en es =>
    have hn : Instr.findNow (.pointer et) K (en :: es) 0 = none := by simp [Instr.findNow, Instr.sameNow]
    simp [Instr.findKey, hu, hn, h]

/-! Keys that are structs of plain fields. -/
theorem eqPl_eq {x y : V} (h : eqPl x y = true) : x = y := by
  cases x <;> simp only [eqPl] at h <;> try (cases h; done)
  all_goals (cases y <;> simp only at h <;> try (cases h; done))
  · rw [beq_iff_eq] at h; rw [h]
  · simp only [Bool.and_eq_true, eqB_eq, beq_iff_eq] at h
    rw [eqKind_eq h.1, h.2]
  · rw [beqBytes_eq, beq_iff_eq] at h; rw [h]

theorem eqPls_eq : ∀ {xs ys : List V}, eqPls xs ys = true → xs = ys
  | [], [], _ => rfl
  | [], _ :: _, h => by cases h
  | _ :: _, [], h => by cases h
  | x :: xs, y :: ys, h => by
    simp only [eqPls] at h
    cases h1 : eqPl x y with
    | false => rw [h1] at h; cases h
    | true => rw [h1] at h; rw [eqPl_eq h1, eqPls_eq h]

theorem eqPl_bits {E : Env} {x : V} {X Y : Value} (h : eqPl x x = true) (hX : Rel E x X) (hY : Rel E x Y) : X = Y ∧ ∀ n, Instr.sameBits n X X = true := by
  cases x <;> simp only [eqPl] at h <;> try (cases h; done)
  · simp only [Rel] at hX hY; subst hX hY; exact ⟨rfl, fun n => by cases n <;> simp [Instr.sameBits]⟩
  · simp only [Rel] at hX hY; subst hX hY; exact ⟨rfl, fun n => by cases n <;> simp [Instr.sameBits]⟩
  · simp only [Rel] at hX hY; subst hX hY; exact ⟨rfl, fun n => by cases n <;> simp [Instr.sameBits, bytes_beq]⟩

theorem eqPls_bits {E : Env} : ∀ {xs : List V} {l l' : List Value}, eqPls xs xs = true → RelL E xs l → RelL E xs l' → l = l' ∧ ∀ n, ((l.zip l).all fun (x, y) => Instr.sameBits n x y) = true
  | [], l, l', _, h1, h2 => by
    simp only [RelL] at h1 h2
    subst h1 h2
    exact ⟨rfl, fun _ => rfl⟩
  | x :: xs, l, l', h, h1, h2 => by
    obtain ⟨y, ys, rfl, a1, a2⟩ := h1
    obtain ⟨y', ys', rfl, b1, b2⟩ := h2
    simp only [eqPls] at h
    cases hc : eqPl x x with
    | false => rw [hc] at h; cases h
    | true =>
      rw [hc] at h
      obtain ⟨rfl, q1⟩ := eqPl_bits hc a1 b1
      obtain ⟨rfl, q2⟩ := eqPls_bits h a2 b2
      exact ⟨rfl, fun n => by simp only [List.zip_cons_cons, List.all_cons, q1, q2, Bool.and_self]⟩

theorem structKey_ok {w : World} {E : Env} {kt : TypeId} : KeyEqOk P w E kt (structEq P kt) := by
  intro k k' K K' b he hx hy
  simp only [structEq] at he
  split at he
  case h_2 => cases he
  split at he
  case h_2 => cases he
  rename_i xs _ ys
  cases hq : (eqC P 12 kt).run (.agg xs) (.agg ys) with
  | none => rw [hq] at he; cases he
  | some c =>
    rw [hq] at he
    have hs := eqC_sound 12 Op.maxDepth kt _ _ K K' c (by decide) hq hx hy w
    cases c with
    | false =>
      simp only [cond_false, Option.some.injEq] at he
      subst he
      exact ⟨hs, fun h => by cases h⟩
    | true =>
      simp only [cond_true] at he
      cases hp : eqPls xs ys with
      | false => rw [hp] at he; cases he
      | true =>
        rw [hp] at he
        simp only [cond_true, Option.some.injEq] at he
        subst he
        refine ⟨hs, fun _ => ?_⟩
        have := eqPls_eq hp
        subst this
        simp only [Rel] at hx hy
        obtain ⟨a, rfl, h1⟩ := hx
        obtain ⟨a', rfl, h2⟩ := hy
        obtain ⟨e, q⟩ := eqPls_bits hp h1 h2
        have e' : a = a' := Array.toList_inj.1 e
        subst e'
        exact ⟨rfl, by show Instr.sameBits (9999 + 1) _ _ = true; simp only [Instr.sameBits, beq_self_eq_true, Bool.true_and]; exact q _⟩

theorem run_checkKey_plain {und : TypeDesc} (hf : keyFits und = true) {t : TypeId} {w : World} (hu : (underlying t).run P w = .ok und w) (b : Bool) (n : Nat) (v : Value) : (Instr.checkKey b (n + 1) t v).run P w = .ok () w := by
  unfold Instr.checkKey
  rw [Sem.run_bind, hu]
  cases und <;> simp only [keyFits] at hf <;> first
    | (cases hf; done)
    | rfl

theorem forIn_check {w : World} {E : Env} {cs : List V} {a : Array Value} (ha : RelL E cs a.toList) (b : Bool) (n : Nat) : ∀ (fs : List Field), fieldsGood P cs fs = true →
    (do for f in fs do
          if f.name ≠ "_" then Instr.checkKey b (n + 1) f.type (← part f.type a f.offset) : Sem Unit).run P w = .ok () w := by
  intro fs
  induction fs with
  | nil => intro _; simp
  | cons f fs ih =>
    intro h
    simp only [fieldsGood] at h
    cases h1 : (partC P f.type f.offset).run cs with
    | none => rw [h1] at h; cases h
    | some x =>
      rw [h1] at h
      simp only at h
      cases h2 : tiOf P f.type with
      | none => rw [h2] at h; cases h
      | some fi =>
        rw [h2] at h
        simp only at h
        cases h3 : keyFits fi.und with
        | false => rw [h3] at h; cases h
        | true =>
          rw [h3] at h
          simp only [cond_true] at h
          obtain ⟨X, hX, _⟩ := partC_sound ha h1 w
          have hk := run_checkKey_plain (P := P) h3 (run_und h2 w) b n X
          have := ih h
          by_cases hn : f.name = "_"
          · simpa [hn] using this
          · simpa [hn, hX, hk] using this

theorem structT_und {t : TypeId} (h : structT P t = true) (w : World) : ∃ fs, (underlying t).run P w = .ok (.struct fs) w := by
  unfold structT at h
  cases ht : tiOf P t with
  | none => rw [ht] at h; cases h
  | some ti =>
    rw [ht] at h
    simp only at h
    have hu := run_und ht w
    cases hund : ti.und <;> rw [hund] at h <;> simp only at h <;> try (cases h; done)
    rw [hund] at hu
    exact ⟨_, hu⟩

theorem run_checkKey_struct {t : TypeId} {k : V} (hg : keyGood P t k = true) {E : Env} {K : Value} (hk : Rel E k K) {w : World} (b : Bool) : (Instr.checkKey b 10000 t K).run P w = .ok () w := by
  unfold keyGood at hg
  cases ht : tiOf P t with
  | none => rw [ht] at hg; cases hg
  | some ti =>
    rw [ht] at hg
    simp only at hg
    have hu := run_und ht w
    cases hund : ti.und <;> rw [hund] at hg <;> simp only at hg <;> try (cases hg; done)
    rename_i fs
    rw [hund] at hu
    cases k <;> simp only at hg <;> try (cases hg; done)
    rename_i cs
    simp only [Rel] at hk
    obtain ⟨a, rfl, ha⟩ := hk
    show (Instr.checkKey b (9998 + 1 + 1) t (.agg a)).run P w = .ok () w
    unfold Instr.checkKey
    rw [Sem.run_bind, hu]
    have := forIn_check (P := P) (w := w) ha b 9998 fs.toList hg
    simp only [Result.andThen_ok, Array.forIn_toList] at this ⊢
    exact this

/-- findNow tells nothing of structs: findKey asks -/
theorem run_findKey_struct {kt : TypeId} {fs : Array Field} {w : World} (hu : (underlying kt).run P w = .ok (.struct fs) w) {K : Value} {l : List MapEntry} {R : Option (Nat × Value)} (h : (Instr.findAsking kt K l 0).run P w = .ok R w) :
    (Instr.findKey kt K l).run P w = .ok R w := by
  cases l with
  | nil =>
    simp only [Instr.findAsking, Sem.run_pure] at h
    cases h
    simp [Instr.findKey, hu, Instr.findNow]
  | cons en es =>
    have hn : Instr.findNow (.struct fs) K (en :: es) 0 = none := by simp [Instr.findNow, Instr.sameNow]
    simp [Instr.findKey, hu, hn, h]

/-- what a map asks whose keys are not told at once: pointers, structs -/
structure AskOk (P : Program) (w : World) (E : Env) (kt : TypeId) (e : EqC) (K : Value) : Prop where
  eq : KeyEqOk P w E kt e
  check : ∀ b, (Instr.checkKey b 10000 kt K).run P w = .ok () w
  find : ∀ {l : List MapEntry} {R}, (Instr.findAsking kt K l 0).run P w = .ok R w → (Instr.findKey kt K l).run P w = .ok R w

theorem ask_ptr {w0 : Fr} {E : Env} {h : Heap} {w : World} (s : Sim w0 E h w) {kt : TypeId} (ht : ptrT P kt = true) (K : Value) : AskOk P w E kt ⟨ptrEqH h⟩ K := by
  obtain ⟨pe, hku⟩ := ptrT_und ht w
  exact ⟨ptrKey_ok s ht, fun b => run_checkKey_ptr hku b K, fun q => run_findKey_ptr hku q⟩

theorem ask_struct {w : World} {E : Env} {kt : TypeId} (ht : structT P kt = true) {k : V} (hg : keyGood P kt k = true) {K : Value} (hk : Rel E k K) : AskOk P w E kt (structEq P kt) K := by
  obtain ⟨fs, hku⟩ := structT_und ht w
  exact ⟨structKey_ok, fun b => run_checkKey_struct hg hk b, fun q => run_findKey_struct hku q⟩
end
end Go.Proofs.YtpfmfpakbfkfoaaGreatDoor.Am

namespace Go.Proofs.YtpfmfpakbfkfoaaGreatDoor.Am
variable [Lay]
set_option linter.unusedSectionVars false
open Go Go.RowKit

section
variable {P : Program}

/-! Maps. -/
theorem keyC_sound {E : Env} {und : TypeDesc} {k k' : V} {K K' : Value} {b : Bool} (he : (keyC und).run k k' = some b) (hx : Rel E k K) (hy : Rel E k' K') :
    Instr.sameNow und K K' = some b ∧ (b = true → K' = K ∧ ∀ n, Instr.sameBits n K K = true) := by
  cases und <;> simp only [keyC] at he <;> try (simp [EqC.none] at he; done)
  case bool =>
    simp only [eqBoolC] at he
    cases k <;> simp only at he <;> try (cases he; done)
    cases k' <;> simp only at he <;> try (cases he; done)
    simp only [Rel] at hx hy
    subst hx hy
    simp only [Option.some.injEq] at he
    subst he
    refine ⟨rfl, fun h => ?_⟩
    rw [beq_iff_eq] at h
    subst h
    exact ⟨rfl, fun n => by cases n <;> simp [Instr.sameBits]⟩
  case int k0 =>
    simp only [eqIntC] at he
    obtain ⟨j, m, rfl, h1⟩ := onInt_some he
    clear he
    obtain ⟨j', m', rfl, h2⟩ := onInt_some h1
    clear h1
    obtain ⟨hk, h⟩ := cond_some h2
    clear h2
    have := eqKind_eq hk
    subst this
    simp only [Rel] at hx hy
    subst hx hy
    simp only [Option.some.injEq, eqB_eq] at h
    subst h
    refine ⟨by simp [Instr.sameNow], fun h => ?_⟩
    rw [beq_iff_eq] at h
    subst h
    exact ⟨rfl, fun n => by cases n <;> simp [Instr.sameBits]⟩
  case string =>
    simp only [eqStrC] at he
    cases k <;> simp only at he <;> try (cases he; done)
    cases k' <;> simp only at he <;> try (cases he; done)
    simp only [Rel] at hx hy
    subst hx hy
    simp only [Option.some.injEq, beqBytes_eq] at he
    subst he
    refine ⟨by simp only [Instr.sameNow, bytes_beq], fun h => ?_⟩
    rw [beq_iff_eq] at h
    subst h
    exact ⟨rfl, fun n => by cases n <;> simp [Instr.sameBits, bytes_beq]⟩

theorem run_checkKey {und : TypeDesc} (hf : keyFits und = true) {t : TypeId} {w : World} (hu : (underlying t).run P w = .ok und w) (b : Bool) (v : Value) : (Instr.checkKey b 10000 t v).run P w = .ok () w := by
  show (Instr.checkKey b (9999 + 1) t v).run P w = .ok () w
  unfold Instr.checkKey
  rw [Sem.run_bind, hu]
  cases und <;> simp only [keyFits] at hf <;> first
    | (cases hf; done)
    | rfl

theorem run_findKey {und : TypeDesc} {t : TypeId} {w : World} (hu : (underlying t).run P w = .ok und w) {K : Value} {l : List MapEntry} {R : Option (Nat × Value)} (h : Instr.findNow und K l 0 = some R) :
    (Instr.findKey t K l).run P w = .ok R w := by
  simp only [Instr.findKey, Sem.run_bind, hu, Result.andThen_ok, h, Sem.run_pure]

theorem findV_sound {E : Env} {und : TypeDesc} {k : V} {K : Value} (hk : Rel E k K) : ∀ (es : List ME) (l : List MapEntry) (r : Option V) (i : Nat), findV (keyC und) k es = some r → MRel E es l →
    ∃ R, Instr.findNow und K l i = some R ∧ (match r with
      | none => R = none
      | some v => ∃ j Y, R = some (j, Y) ∧ Rel E v Y)
  | [], l, r, i, h, hr => by
    simp only [MRel] at hr
    subst hr
    simp only [findV, Option.some.injEq] at h
    subst h
    exact ⟨none, rfl, rfl⟩
  | m :: ms, l, r, i, h, hr => by
    obtain ⟨e, es, rfl, h1, h2, h3, h4⟩ := hr
    simp only [findV] at h
    cases hs : (keyC und).run k m.k with
    | none => rw [hs] at h; cases h
    | some b =>
      rw [hs] at h
      simp only at h
      obtain ⟨q1, q2⟩ := keyC_sound hs hk h1
      cases b with
      | true =>
        simp only [cond_true, Option.some.injEq] at h
        subst h
        exact ⟨some (i, e.val), by simp only [Instr.findNow, q1], i, e.val, rfl, h2⟩
      | false =>
        simp only [cond_false] at h
        obtain ⟨R, g1, g2⟩ := findV_sound hk ms es r (i + 1) h h4
        exact ⟨R, by simp only [Instr.findNow, q1, g1], g2⟩

theorem putV_sound {E : Env} {und : TypeDesc} {k v : V} {K X : Value} (hk : Rel E k K) (hv : Rel E v X) (clock : Nat) : ∀ (es : List ME) (l : List MapEntry) (r : List ME × Bool) (i : Nat), putV (keyC und) k v clock es = some r → MRel E es l →
    (r.2 = true → Instr.findNow und K l i = some none ∧ MRel E r.1 (l ++ [⟨K, X, clock⟩])) ∧
    (r.2 = false → ∃ j e Y, Instr.findNow und K l i = some (some (i + j, Y)) ∧ l[j]? = some e ∧ Instr.sameBits 10000 e.key K = true ∧ MRel E r.1 (l.modify j fun e => { e with key := K, val := X }))
  | [], l, r, i, h, hr => by
    simp only [MRel] at hr
    subst hr
    simp only [putV, Option.some.injEq] at h
    subst h
    exact ⟨fun _ => ⟨rfl, _, _, rfl, hk, hv, rfl, rfl⟩, fun h => by cases h⟩
  | m :: ms, l, r, i, h, hr => by
    obtain ⟨e, es, rfl, h1, h2, h3, h4⟩ := hr
    simp only [putV] at h
    cases hs : (keyC und).run k m.k with
    | none => rw [hs] at h; cases h
    | some b =>
      rw [hs] at h
      simp only at h
      obtain ⟨q1, q2⟩ := keyC_sound hs hk h1
      cases b with
      | true =>
        simp only [cond_true, Option.some.injEq] at h
        subst h
        obtain ⟨q3, q4⟩ := q2 rfl
        refine ⟨fun h => (by cases h), fun _ => ⟨0, e, e.val, by simp only [Instr.findNow, q1, Nat.add_zero], rfl, by rw [q3]; exact q4 _, ?_⟩⟩
        exact ⟨_, es, rfl, hk, hv, h3, h4⟩
      | false =>
        simp only [cond_false] at h
        cases hp : putV (keyC und) k v clock ms with
        | none => rw [hp] at h; cases h
        | some r' =>
          rw [hp] at h
          simp only [Option.some.injEq] at h
          subst h
          obtain ⟨g1, g2⟩ := putV_sound hk hv clock ms es r' (i + 1) hp h4
          refine ⟨fun h => ?_, fun h => ?_⟩
          · obtain ⟨a1, a2⟩ := g1 h
            exact ⟨by simp only [Instr.findNow, q1, a1], ⟨e, es ++ [⟨K, X, clock⟩], rfl, h1, h2, h3, a2⟩⟩
          · obtain ⟨j, e', Y, a1, a2, a3, a4⟩ := g2 h
            exact ⟨j + 1, e', Y, by simp only [Instr.findNow, q1, a1]; congr 3; omega, by simpa using a2, a3, e, _, rfl, h1, h2, h3, a4⟩

theorem mapSee_sound {w0 : Fr} {E : Env} {h : Heap} {w : World} (s : Sim w0 E h w) {x : V} {X : Value} {es : List ME} (he : mapSee h x = some es) (hx : Rel E x X) :
    (X = .map none ∧ es = []) ∨ ∃ r a clock, X = .map (some r) ∧ (getObj r).run P w = .ok (.map a clock) w ∧ MRel E es a.toList := by
  cases x <;> simp only [mapSee] at he <;> try (cases he; done)
  · simp only [Rel] at hx
    exact .inl ⟨hx, by simpa using he.symm⟩
  · rename_i b
    simp only [Rel] at hx
    obtain ⟨p, hp, rfl⟩ := hx
    have hb := s.at hp
    cases hg : h.get b <;> rw [hg] at he <;> simp only [Blk.onMap] at he <;> try (cases he; done)
    simp only [Option.some.injEq] at he
    subst he
    rw [hg] at hb
    obtain ⟨q, a, h1, _, h3, h4⟩ := hb
    rw [hp] at h1; cases h1
    exact .inr ⟨p.blk, a, _, rfl, by simp only [getObj, Sem.run, h3]; rfl, h4⟩

theorem findNow_none {und : TypeDesc} {K : Value} : ∀ {l : List MapEntry} {i : Nat}, (∀ e ∈ l, Instr.sameNow und K e.key = some false) → Instr.findNow und K l i = some none
  | [], _, _ => rfl
  | e :: es, i, h => by
    simp only [Instr.findNow, h e (by simp)]
    exact findNow_none fun e' he' => h e' (by simp [he'])

theorem findNow_some {und : TypeDesc} {K : Value} : ∀ {l : List MapEntry} {i : Nat}, (∀ e ∈ l, ∃ b, Instr.sameNow und K e.key = some b) → (∃ e ∈ l, Instr.sameNow und K e.key = some true) →
    ∃ j, ∃ e ∈ l, Instr.sameNow und K e.key = some true ∧ Instr.findNow und K l i = some (some (j, e.val))
  | [], _, _, h => by obtain ⟨e, he, _⟩ := h; simp at he
  | e :: es, i, h1, h2 => by
    obtain ⟨b, hb⟩ := h1 e (by simp)
    cases b with
    | true => exact ⟨i, e, by simp, hb, by simp only [Instr.findNow, hb]⟩
    | false =>
      obtain ⟨e', he', ht⟩ := h2
      simp only [List.mem_cons] at he'
      rcases he' with rfl | he'
      · rw [hb] at ht; cases ht
      · obtain ⟨j, e2, q1, q2, q3⟩ := findNow_some (i := i + 1) (fun x hx => h1 x (by simp [hx])) ⟨e', he', ht⟩
        exact ⟨j, e2, by simp [q1], q2, by simp only [Instr.findNow, hb, q3]⟩

theorem findU_facts {E : Env} {und : TypeDesc} {k : V} {K : Value} (hk : Rel E k K) : ∀ (es : List ME) (l : List MapEntry) (r : Option V), findU (keyC und) k es = some r → URel E es l →
    (∀ e ∈ l, ∃ b, Instr.sameNow und K e.key = some b) ∧ (match r with
      | none => ∀ e ∈ l, Instr.sameNow und K e.key = some false
      | some v => (∃ e ∈ l, Instr.sameNow und K e.key = some true) ∧ ∀ e ∈ l, Instr.sameNow und K e.key = some true → Rel E v e.val)
  | [], l, r, h, hr => by
    simp only [URel] at hr
    subst hr
    simp only [findU, Option.some.injEq] at h
    subst h
    exact ⟨fun e he => by simp at he, fun e he => by simp at he⟩
  | m :: ms, l, r, h, hr => by
    obtain ⟨e, es, rfl, h1, h2, h4⟩ := hr
    simp only [findU] at h
    cases hf : findU (keyC und) k ms with
    | none => rw [hf] at h; cases h
    | some r' =>
      rw [hf] at h
      simp only at h
      obtain ⟨g1, g2⟩ := findU_facts hk ms es r' hf h4
      cases hs : (keyC und).run k m.k with
      | none => rw [hs] at h; cases h
      | some b =>
        rw [hs] at h
        simp only at h
        obtain ⟨q1, _⟩ := keyC_sound hs hk h1
        have hdef : ∀ e' ∈ e :: es, ∃ b, Instr.sameNow und K e'.key = some b := by
          intro e' he'
          rcases List.mem_cons.1 he' with rfl | he'
          · exact ⟨b, q1⟩
          · exact g1 e' he'
        refine ⟨hdef, ?_⟩
        cases b with
        | true =>
          simp only [cond_true] at h
          cases r' with
          | some _ => cases h
          | none =>
            simp only [Option.some.injEq] at h
            subst h
            refine ⟨⟨e, by simp, q1⟩, fun e' he' ht => ?_⟩
            rcases List.mem_cons.1 he' with rfl | he'
            · exact h2
            · have := g2 e' he'
              rw [ht] at this; cases this
        | false =>
          simp only [cond_false, Option.some.injEq] at h
          subst h
          cases r' with
          | none =>
            intro e' he'
            rcases List.mem_cons.1 he' with rfl | he'
            · exact q1
            · exact g2 e' he'
          | some v =>
            obtain ⟨⟨e0, y1, y2⟩, y3⟩ := g2
            refine ⟨⟨e0, by simp [y1], y2⟩, fun e' he' ht => ?_⟩
            rcases List.mem_cons.1 he' with rfl | he'
            · rw [q1] at ht; cases ht
            · exact y3 e' he' ht

theorem findU_sound {E : Env} {und : TypeDesc} {k : V} {K : Value} (hk : Rel E k K) {es : List ME} {l a : List MapEntry} {r : Option V} (h : findU (keyC und) k es = some r) (hr : URel E es l) (hp : l.Perm a) :
    ∃ R, Instr.findNow und K a 0 = some R ∧ (match r with
      | none => R = none
      | some v => ∃ j Y, R = some (j, Y) ∧ Rel E v Y) := by
  obtain ⟨h1, h2⟩ := findU_facts hk es l r h hr
  have hm : ∀ e, e ∈ a ↔ e ∈ l := fun e => hp.mem_iff.symm
  cases r with
  | none => exact ⟨none, findNow_none fun e he => h2 e ((hm e).1 he), rfl⟩
  | some v =>
    obtain ⟨⟨e0, y1, y2⟩, y3⟩ := h2
    obtain ⟨j, e, q1, q2, q3⟩ := findNow_some (i := 0) (fun e he => h1 e ((hm e).1 he)) ⟨e0, (hm e0).2 y1, y2⟩
    exact ⟨_, q3, j, e.val, rfl, y3 e ((hm e).1 q1) q2⟩

theorem lookupU_cases {e : EqC} {z : V} {ok : Bool} {h : Heap} {x k v : V} (he : lookupU e z ok h x k = some v) :
    lookupV e z ok h x k = some v ∨ ∃ b es r, x = .map b ∧ h.get b = .mset es ∧ findU e k es = some r ∧ v = (match r with
      | some u => bif ok then .tuple [u, .bool true] else u
      | none => bif ok then .tuple [z, .bool false] else z) := by
  unfold lookupU at he
  cases x <;> simp only at he <;> try (exact .inl he)
  rename_i b
  cases hg : h.get b <;> rw [hg] at he <;> simp only at he <;> try (exact .inl he)
  rename_i es
  cases hf : findU e k es with
  | none => rw [hf] at he; cases he
  | some r =>
    rw [hf] at he
    refine .inr ⟨b, es, r, rfl, hg, hf, ?_⟩
    cases r <;> simp only [Option.some.injEq] at he <;> exact he.symm

theorem lookupC_sound {w0 : Fr} {E : Env} {h : Heap} {w : World} (s : Sim w0 E h w) {t : TypeId} {ok : Bool} {x k v : V} {X K : Value} (hx : Rel E x X) (hk : Rel E k K) (he : (lookupC P t ok).run h x k = some v) :
    ∃ Z, (Instr.lookup t X K ok).run P w = .ok Z w ∧ Rel E v Z := by
  unfold lookupC at he
  cases ht : tiOf P t with
  | none => rw [ht] at he; cases he
  | some ti =>
    rw [ht] at he
    simp only at he
    have hu := run_und ht w
    cases hund : ti.und <;> rw [hund] at he <;> simp only at he <;> try (cases he; done)
    rename_i kt et
    rw [hund] at hu
    cases hkt : tiOf P kt with
    | none => rw [hkt] at he; cases he
    | some ki =>
      rw [hkt] at he
      simp only at he
      cases het : tiOf P et with
      | none => rw [het] at he; cases he
      | some ei =>
        rw [het] at he
        simp only at he
        cases hz : ei.zero with
        | none => rw [hz] at he; cases he
        | some z =>
          rw [hz] at he
          simp only at he
          cases hf : keyFits ki.und with
          | false =>
            rw [hf] at he
            simp only [cond_false] at he
            have hask : ∃ e, AskOk P w E kt e K ∧ lookupV e z ok h x k = some v := by
              cases hpt : ptrT P kt with
              | true =>
                rw [hpt] at he
                exact ⟨_, ask_ptr s hpt K, he⟩
              | false =>
                rw [hpt] at he
                simp only [cond_false] at he
                cases hst : structT P kt with
                | false => rw [hst] at he; cases he
                | true =>
                  rw [hst] at he
                  simp only [cond_true] at he
                  obtain ⟨hg, he⟩ := cond_some he
                  exact ⟨_, ask_struct hst hg hk, he⟩
            clear he
            obtain ⟨e, ask, he⟩ := hask
            obtain ⟨zx, hzx, hzr, _⟩ := run_zero (P := P) het hz E w
            simp only [lookupV] at he
            cases hm : mapSee h x with
            | none => rw [hm] at he; cases he
            | some es =>
              rw [hm] at he
              simp only at he
              cases hfv : findV e k es with
              | none => rw [hfv] at he; cases he
              | some r =>
                rw [hfv] at he
                simp only at he
                have main : ∀ (l : List MapEntry), MRel E es l → ∃ R, (Instr.findKey kt K l).run P w = .ok R w ∧
                    ((R = none ∧ Rel E v (if ok = true then .tuple #[zx, .bool false] else zx)) ∨ ∃ j Y, R = some (j, Y) ∧ Rel E v (if ok = true then .tuple #[Y, .bool true] else Y)) := by
                  intro l hl
                  obtain ⟨R, g1, g2⟩ := findAsk_sound ask.eq hk es l r 0 hfv hl
                  refine ⟨R, ask.find g1, ?_⟩
                  cases r with
                  | none =>
                    simp only at g2 he
                    refine .inl ⟨g2, ?_⟩
                    simp only [Option.some.injEq] at he
                    subst he
                    cases ok
                    · exact hzr
                    · simp only [cond_true, if_true, Rel, RelL]; exact ⟨_, rfl, _, _, rfl, hzr, _, _, rfl, rfl, rfl⟩
                  | some u =>
                    simp only at g2 he
                    obtain ⟨j, Y, hR, hY⟩ := g2
                    refine .inr ⟨j, Y, hR, ?_⟩
                    simp only [Option.some.injEq] at he
                    subst he
                    cases ok
                    · exact hY
                    · simp only [cond_true, if_true, Rel, RelL]; exact ⟨_, rfl, _, _, rfl, hY, _, _, rfl, rfl, rfl⟩
                rcases mapSee_sound (P := P) s hm hx with ⟨rfl, rfl⟩ | ⟨r0, a, clock, rfl, hgo, hmr⟩
                · obtain ⟨R, g1, g2⟩ := main [] rfl
                  have hck := ask.check true
                  rcases g2 with ⟨rfl, g3⟩ | ⟨j, Y, rfl, g3⟩
                  all_goals
                    refine ⟨_, ?_, g3⟩
                    simp only [Instr.lookup, Sem.run_bind, hu, Result.andThen_ok, Sem.run_pure]
                    have e1 : (#[] : Array MapEntry).isEmpty = true := rfl
                    rw [e1, hck, Result.andThen_ok, g1, Result.andThen_ok]
                    simp only [Sem.run_bind, hzx, Result.andThen_ok, Sem.run_pure]
                · obtain ⟨R, g1, g2⟩ := main a.toList hmr
                  have hck := ask.check a.isEmpty
                  rcases g2 with ⟨rfl, g3⟩ | ⟨j, Y, rfl, g3⟩
                  all_goals
                    refine ⟨_, ?_, g3⟩
                    simp only [Instr.lookup, Sem.run_bind, hu, Result.andThen_ok, Sem.run_pure, hgo]
                    rw [hck, Result.andThen_ok, g1, Result.andThen_ok]
                    simp only [Sem.run_bind, hzx, Result.andThen_ok, Sem.run_pure]
          | true =>
            rw [hf] at he
            simp only [cond_true] at he
            obtain ⟨zx, hzx, hzr, _⟩ := run_zero (P := P) het hz E w
            have hku := run_und hkt w
            rcases lookupU_cases he with he | ⟨b, es, r, rfl, hg, hfu, rfl⟩
            case inr =>
              simp only [Rel] at hx
              obtain ⟨p, hp, rfl⟩ := hx
              have hb := s.at hp
              rw [hg] at hb
              obtain ⟨p', a, c, l, hp', _, hh, hu1, hu2⟩ := hb
              rw [hp] at hp'; cases hp'
              obtain ⟨R, g1, g2⟩ := findU_sound hk hfu hu1 hu2
              have hgo : (getObj p.blk).run P w = .ok (.map a c) w := by simp only [getObj, Sem.run, hh]
              have hck := run_checkKey (P := P) hf hku a.isEmpty K
              have g1' := run_findKey hku g1
              cases r with
              | none =>
                simp only at g2
                subst g2
                refine ⟨if ok = true then .tuple #[zx, .bool false] else zx, ?_, ?_⟩
                · simp only [Instr.lookup, Sem.run_bind, hu, Result.andThen_ok, Sem.run_pure, hgo]
                  rw [hck, Result.andThen_ok, g1', Result.andThen_ok]
                  simp only [Sem.run_bind, hzx, Result.andThen_ok, Sem.run_pure]
                · cases ok
                  · exact hzr
                  · simp only [cond_true, if_true, Rel, RelL]; exact ⟨_, rfl, _, _, rfl, hzr, _, _, rfl, rfl, rfl⟩
              | some u =>
                simp only at g2
                obtain ⟨j, Y, rfl, hY⟩ := g2
                refine ⟨if ok = true then .tuple #[Y, .bool true] else Y, ?_, ?_⟩
                · simp only [Instr.lookup, Sem.run_bind, hu, Result.andThen_ok, Sem.run_pure, hgo]
                  rw [hck, Result.andThen_ok, g1', Result.andThen_ok]
                  simp only [Sem.run_bind, Sem.run_pure, Result.andThen_ok]
                · cases ok
                  · exact hY
                  · simp only [cond_true, if_true, Rel, RelL]; exact ⟨_, rfl, _, _, rfl, hY, _, _, rfl, rfl, rfl⟩
            simp only [lookupV] at he
            cases hm : mapSee h x with
            | none => rw [hm] at he; cases he
            | some es =>
              rw [hm] at he
              simp only at he
              cases hfv : findV (keyC ki.und) k es with
              | none => rw [hfv] at he; cases he
              | some r =>
                rw [hfv] at he
                simp only at he
                have main : ∀ (l : List MapEntry), MRel E es l → ∃ R, (Instr.findKey kt K l).run P w = .ok R w ∧
                    ((R = none ∧ Rel E v (if ok = true then .tuple #[zx, .bool false] else zx)) ∨ ∃ j Y, R = some (j, Y) ∧ Rel E v (if ok = true then .tuple #[Y, .bool true] else Y)) := by
                  intro l hl
                  obtain ⟨R, g1, g2⟩ := findV_sound hk es l r 0 hfv hl
                  refine ⟨R, run_findKey hku g1, ?_⟩
                  cases r with
                  | none =>
                    simp only at g2 he
                    refine .inl ⟨g2, ?_⟩
                    simp only [Option.some.injEq] at he
                    subst he
                    cases ok
                    · exact hzr
                    · simp only [cond_true, if_true, Rel, RelL]; exact ⟨_, rfl, _, _, rfl, hzr, _, _, rfl, rfl, rfl⟩
                  | some u =>
                    simp only at g2 he
                    obtain ⟨j, Y, hR, hY⟩ := g2
                    refine .inr ⟨j, Y, hR, ?_⟩
                    simp only [Option.some.injEq] at he
                    subst he
                    cases ok
                    · exact hY
                    · simp only [cond_true, if_true, Rel, RelL]; exact ⟨_, rfl, _, _, rfl, hY, _, _, rfl, rfl, rfl⟩
                rcases mapSee_sound (P := P) s hm hx with ⟨rfl, rfl⟩ | ⟨r0, a, clock, rfl, hgo, hmr⟩
                · obtain ⟨R, g1, g2⟩ := main [] rfl
                  have hck := run_checkKey (P := P) hf hku true K
                  rcases g2 with ⟨rfl, g3⟩ | ⟨j, Y, rfl, g3⟩
                  all_goals
                    refine ⟨_, ?_, g3⟩
                    simp only [Instr.lookup, Sem.run_bind, hu, Result.andThen_ok, Sem.run_pure]
                    have e1 : (#[] : Array MapEntry).isEmpty = true := rfl
                    rw [e1, hck, Result.andThen_ok, g1, Result.andThen_ok]
                    simp only [Sem.run_bind, hzx, Result.andThen_ok, Sem.run_pure]
                · obtain ⟨R, g1, g2⟩ := main a.toList hmr
                  have hck := run_checkKey (P := P) hf hku a.isEmpty K
                  rcases g2 with ⟨rfl, g3⟩ | ⟨j, Y, rfl, g3⟩
                  all_goals
                    refine ⟨_, ?_, g3⟩
                    simp only [Instr.lookup, Sem.run_bind, hu, Result.andThen_ok, Sem.run_pure, hgo]
                    rw [hck, Result.andThen_ok, g1, Result.andThen_ok]
                    simp only [Sem.run_bind, hzx, Result.andThen_ok, Sem.run_pure]

theorem updC_sound {w0 : Fr} {E : Env} {h h' : Heap} {w : World} (s : Sim w0 E h w) {t : TypeId} {x k v : V} {X K Y : Value} (hx : Rel E x X) (hk : Rel E k K) (hv : Rel E v Y) (he : (updC P t).run h x k v = some h') :
    ∃ w', (Instr.mapUpdate t X K Y).run P w = .ok () w' ∧ Sim w0 E h' w' := by
  unfold updC at he
  cases ht : tiOf P t with
  | none => rw [ht] at he; cases he
  | some ti =>
    rw [ht] at he
    simp only at he
    have hu := run_und ht w
    cases hund : ti.und <;> rw [hund] at he <;> simp only at he <;> try (cases he; done)
    rename_i kt et
    rw [hund] at hu
    cases hkt : tiOf P kt with
    | none => rw [hkt] at he; cases he
    | some ki =>
      rw [hkt] at he
      simp only at he
      cases hf : keyFits ki.und with
      | false =>
        rw [hf] at he
        simp only [cond_false] at he
        have hask : ∃ e, AskOk P w E kt e K ∧ updV e h x k v = some h' := by
          cases hpt : ptrT P kt with
          | true =>
            rw [hpt] at he
            exact ⟨_, ask_ptr s hpt K, he⟩
          | false =>
            rw [hpt] at he
            simp only [cond_false] at he
            cases hst : structT P kt with
            | false => rw [hst] at he; cases he
            | true =>
              rw [hst] at he
              simp only [cond_true] at he
              obtain ⟨hg, he⟩ := cond_some he
              exact ⟨_, ask_struct hst hg hk, he⟩
        clear he
        obtain ⟨e, ask, he⟩ := hask
        cases x <;> simp only [updV] at he <;> try (cases he; done)
        rename_i b
        simp only [Rel] at hx
        obtain ⟨p, hp, rfl⟩ := hx
        have hb := s.at hp
        cases hg : h.get b <;> rw [hg] at he <;> simp only [Blk.onMap] at he <;> try (cases he; done)
        rename_i es clock
        rw [hg] at hb
        obtain ⟨q, a, h1, hB, h3, h4⟩ := hb
        rw [hp] at h1; cases h1
        cases hpv : putV e k v clock es with
        | none => rw [hpv] at he; cases he
        | some r =>
          rw [hpv] at he
          simp only [Option.some.injEq] at he
          subst he
          have hgo : (getObj p.blk).run P w = .ok (.map a clock) w := by simp only [getObj, Sem.run, h3]
          have hck := ask.check false
          have hplt := (Array.getElem?_eq_some_iff.1 h3).1
          have done0 : ∀ (a' : Array MapEntry) (c' : Nat), MRel E r.1 a'.toList → c' = (bif r.2 then clock + 1 else clock) →
              ∃ w', (setObj p.blk (.map a' c')).run P w = .ok () w' ∧ Sim w0 E (h.set b (.mp r.1 (bif r.2 then clock + 1 else clock))) w' := by
            intro a' c' hm hc
            refine ⟨{ w with heap := w.heap.setIfInBounds p.blk (.map a' c') }, by simp only [setObj, Sem.run, h3], s.set (p := p) (by rw [hg]; rfl) hp hB (by simp) (fun j hj => ?_) rfl rfl rfl (fun _ _ _ e => by cases e) ?_⟩
            · simp only [Array.getElem?_setIfInBounds]
              rw [if_neg (fun e => hj e.symm)]
            · exact ⟨p, a', hp, hB, by simp [hplt, hc], hm⟩
          obtain ⟨g1, g2⟩ := putAsk_sound ask.eq hk hv clock es a.toList r 0 hpv h4
          cases hr2 : r.2 with
          | true =>
            obtain ⟨a1, a2⟩ := g1 hr2
            obtain ⟨w', d1, d2⟩ := done0 (a.push ⟨K, Y, clock⟩) (clock + 1) (by simpa using a2) (by rw [hr2]; rfl)
            rw [hr2] at d2
            refine ⟨w', ?_, d2⟩
            simp only [Instr.mapUpdate, Sem.run_bind, hu, Result.andThen_ok, hgo, hck, ask.find a1, d1]
          | false =>
            obtain ⟨j, en, Y0, a1, a2, a3, a4⟩ := g2 hr2
            obtain ⟨w', d1, d2⟩ := done0 (a.modify j fun en => { en with key := K, val := Y }) clock (by simpa using a4) (by rw [hr2]; rfl)
            rw [hr2] at d2
            refine ⟨w', ?_, d2⟩
            rw [Nat.zero_add] at a1
            have e1 : a[j]? = some en := by simpa using a2
            simp only [Instr.mapUpdate, Sem.run_bind, hu, Result.andThen_ok, hgo, hck, ask.find a1, e1, Option.map, Option.getD, Instr.keyThatStays, a3, if_true, Sem.run_pure, d1]
      | true =>
        rw [hf] at he
        simp only [cond_true] at he
        have hku := run_und hkt w
        cases x <;> simp only [updV] at he <;> try (cases he; done)
        rename_i b
        simp only [Rel] at hx
        obtain ⟨p, hp, rfl⟩ := hx
        have hb := s.at hp
        cases hg : h.get b <;> rw [hg] at he <;> simp only [Blk.onMap] at he <;> try (cases he; done)
        rename_i es clock
        rw [hg] at hb
        obtain ⟨q, a, h1, hB, h3, h4⟩ := hb
        rw [hp] at h1; cases h1
        cases hpv : putV (keyC ki.und) k v clock es with
        | none => rw [hpv] at he; cases he
        | some r =>
          rw [hpv] at he
          simp only [Option.some.injEq] at he
          subst he
          have hgo : (getObj p.blk).run P w = .ok (.map a clock) w := by simp only [getObj, Sem.run, h3]
          have hck := run_checkKey (P := P) hf hku false K
          have hplt := (Array.getElem?_eq_some_iff.1 h3).1
          have done : ∀ (a' : Array MapEntry) (c' : Nat), MRel E r.1 a'.toList → c' = (bif r.2 then clock + 1 else clock) →
              ∃ w', (setObj p.blk (.map a' c')).run P w = .ok () w' ∧ Sim w0 E (h.set b (.mp r.1 (bif r.2 then clock + 1 else clock))) w' := by
            intro a' c' hm hc
            refine ⟨{ w with heap := w.heap.setIfInBounds p.blk (.map a' c') }, by simp only [setObj, Sem.run, h3], s.set (p := p) (by rw [hg]; rfl) hp hB (by simp) (fun j hj => ?_) rfl rfl rfl (fun _ _ _ e => by cases e) ?_⟩
            · simp only [Array.getElem?_setIfInBounds]
              rw [if_neg (fun e => hj e.symm)]
            · exact ⟨p, a', hp, hB, by simp [hplt, hc], hm⟩
          obtain ⟨g1, g2⟩ := putV_sound hk hv clock es a.toList r 0 hpv h4
          cases hr2 : r.2 with
          | true =>
            obtain ⟨a1, a2⟩ := g1 hr2
            obtain ⟨w', d1, d2⟩ := done (a.push ⟨K, Y, clock⟩) (clock + 1) (by simpa using a2) (by rw [hr2]; rfl)
            rw [hr2] at d2
            refine ⟨w', ?_, d2⟩
            simp only [Instr.mapUpdate, Sem.run_bind, hu, Result.andThen_ok, hgo, hck, run_findKey hku a1, d1]
          | false =>
            obtain ⟨j, e, Y0, a1, a2, a3, a4⟩ := g2 hr2
            obtain ⟨w', d1, d2⟩ := done (a.modify j fun e => { e with key := K, val := Y }) clock (by simpa using a4) (by rw [hr2]; rfl)
            rw [hr2] at d2
            refine ⟨w', ?_, d2⟩
            rw [Nat.zero_add] at a1
            have e1 : a[j]? = some e := by simpa using a2
            simp only [Instr.mapUpdate, Sem.run_bind, hu, Result.andThen_ok, hgo, hck, run_findKey hku a1, e1, Option.map, Option.getD, Instr.keyThatStays, a3, if_true, Sem.run_pure, d1]

theorem newMap_sound {w0 : Fr} {E : Env} {h h' : Heap} {w : World} (s : Sim w0 E h w) {v : V} (he : newMap h = .val v h') : Gives w0 P E w (do pure (.map (some (← newObj (.map #[] 0))))) v h' := by
  unfold newMap at he
  simp only [OR.val.injEq] at he
  obtain ⟨rfl, rfl⟩ := he
  have hnone := s.fresh h.next (Nat.le_refl _)
  have hput : E.put (pa h.next) ⟨w.heap.size, 0, 0⟩ (pa h.next) = some ⟨w.heap.size, 0, 0⟩ := by unfold Env.put; rw [if_pos rfl]
  refine ⟨.map (some w.heap.size), { w with heap := w.heap.push (.map #[] 0) }, _, ?_, Env.le_put (p := ⟨w.heap.size, 0, 0⟩) hnone, ?_, s.alloc 0 ?_⟩
  · simp only [Sem.run_bind, run_newObj, Result.andThen_ok, Sem.run_pure]
  · simp only [Rel]; exact ⟨_, hput, rfl⟩
  · exact ⟨_, #[], hput, s.frame.size, by simp, rfl⟩

theorem makeMapC_sound {w0 : Fr} {E : Env} {h h' : Heap} {w : World} (s : Sim w0 E h w) {t : TypeId} {x : Option V} {X : Option Value} {v : V} (hx : optRel E x X) (he : makeMapC P t x h = .val v h') : Gives w0 P E w (Instr.makeMap t X) v h' := by
  unfold makeMapC at he
  cases ht : tiOf P t with
  | none => rw [ht] at he; cases he
  | some ti =>
    rw [ht] at he
    simp only at he
    have hu := run_und ht
    cases hb : Nat.beq (nilKindD ti.und) 3 with
    | false => rw [hb] at he; cases he
    | true =>
      rw [hb] at he
      simp only [cond_true] at he
      cases x with
      | none =>
        have : X = none := by cases X with | none => rfl | some _ => simp [optRel] at hx
        subst this
        simp only [makeMapV] at he
        have := newMap_sound (P := P) s he
        exact this
      | some u =>
        simp only [makeMapV] at he
        obtain ⟨kk, n, rfl, h1⟩ := onInt_val he
        obtain ⟨Y, rfl, hY⟩ : ∃ Y, X = some Y ∧ Rel E (.int kk n) Y := by
          cases X with
          | none => simp [optRel] at hx
          | some Y => simp only [optRel] at hx; obtain ⟨Y', h1, h2⟩ := hx; cases h1; exact ⟨_, rfl, h2⟩
        have := hY.int_of; subst this
        obtain ⟨Z, w', E', q1, q2⟩ := newMap_sound (P := P) s h1
        refine ⟨Z, w', E', ?_, q2⟩
        cases hund : ti.und <;> rw [hund] at hb <;> simp [nilKindD] at hb
        have hu := hu w
        rw [hund] at hu
        simp only [Instr.makeMap, Sem.run_bind, hu, Result.andThen_ok, asInt, Sem.run_pure]
        exact q1

theorem lenMap_sound {w0 : Fr} {E : Env} {h h' : Heap} {w : World} (s : Sim w0 E h w) {t : TypeId} {ti : TI} (ht : tiOf P t = some ti) (hm : isMapD ti.und = true) {x v : V} {X : Value} (hx : Rel E x X) (ty : TypeId) (rest : List TypeId)
    (he : lenMap [x] h = .val v h') : Gives w0 P E w (Builtin.len_ (t :: rest).toArray ty #[X]) v h' := by
  simp only [lenMap] at he
  cases hs : mapSee h x with
  | none => rw [hs] at he; cases he
  | some es =>
    rw [hs] at he
    simp only [OR.val.injEq] at he
    obtain ⟨rfl, rfl⟩ := he
    have hu := run_und ht w
    cases hund : ti.und <;> rw [hund] at hm <;> simp [isMapD] at hm
    rw [hund] at hu
    rcases mapSee_sound (P := P) s hs hx with ⟨rfl, rfl⟩ | ⟨r0, a, clock, rfl, hgo, hmr⟩
    · refine Gives.plain (Z := goInt 0) s ?_ (by simp [Rel, goInt])
      simp [Builtin.len_, hu]
    · have hlen : ∀ (ms : List ME) (l : List MapEntry), MRel E ms l → l.length = ms.length := by
        intro ms
        induction ms with
        | nil => intro l h; simp only [MRel] at h; subst h; rfl
        | cons m ms ih => intro l h; obtain ⟨e, es, rfl, _, _, _, h4⟩ := h; simp [ih _ h4]
      refine Gives.plain (Z := goInt a.size) s ?_ ?_
      · simp [Builtin.len_, hu, hgo]
      · have := hlen _ _ hmr
        simp only [Array.length_toList] at this
        simp [Rel, goInt, this]
end
end Go.Proofs.YtpfmfpakbfkfoaaGreatDoor.Am

namespace Go.Proofs.YtpfmfpakbfkfoaaGreatDoor.Am
variable [Lay]
set_option linter.unusedSectionVars false
set_option linter.unusedVariables false
set_option linter.unusedSimpArgs false
open Go Go.RowKit

/-! Entries of maps, taken and filled apart (m[k], n[l] = x, y): not yet in the machine (K2's cop). -/
section
variable {P : Program}

theorem fillE_sound {E : Env} {v : V} {Y : Value} (hv : Rel E v Y) {n : Nat} : ∀ (es : List ME) (l : List MapEntry) (r : List ME), fillE n v es = some r → MRel E es l →
    ∃ j, l.findIdx? (fun e => (e.born : Int) == (n : Int)) = some j ∧ MRel E r (l.modify j fun e => { e with val := Y })
  | [], l, r, h, hr => by cases h
  | m :: ms, l, r, h, hr => by
    obtain ⟨e, es, rfl, h1, h2, h3, h4⟩ := hr
    simp only [fillE] at h
    cases hb : Nat.beq m.born n with
    | true =>
      rw [hb] at h
      simp only [cond_true, Option.some.injEq] at h
      subst h
      have hn := Nat.eq_of_beq_eq_true hb
      refine ⟨0, by simp [List.findIdx?_cons, h3, hn], ?_⟩
      exact ⟨_, es, rfl, h1, hv, h3, h4⟩
    | false =>
      rw [hb] at h
      simp only [cond_false] at h
      cases hf : fillE n v ms with
      | none => rw [hf] at h; cases h
      | some r' =>
        rw [hf] at h
        simp only [Option.some.injEq] at h
        subst h
        obtain ⟨j, g1, g2⟩ := fillE_sound hv ms es r' hf h4
        have hne : ¬ ((e.born : Int) == (n : Int)) = true := by
          rw [h3]
          intro hq
          have hq2 : (m.born : Int) = (n : Int) := by simpa using hq
          have hq3 : m.born = n := by omega
          rw [hq3, Nat.beq_refl] at hb
          cases hb
        refine ⟨j + 1, by simp only [List.findIdx?_cons, hne]; simp [g1], ⟨e, _, by simp [List.modify], h1, h2, h3, g2⟩⟩

theorem entryStore_sound {w0 : Fr} {E : Env} {h h' : Heap} {w : World} (s : Sim w0 E h w) {t : TypeId} {x st v : V} {X S Y : Value} (hx : Rel E x X) (hst : Rel E st S) (hv : Rel E v Y) (he : entryStoreV h x st v = some h') :
    ∃ w', (Instr.entryStore t X S Y).run P w = .ok () w' ∧ Sim w0 E h' w' := by
  unfold entryStoreV at he
  split at he
  case h_2 => cases he
  rename_i b
  split at he
  case h_2 => cases he
  rename_i kk m
  split at he
  case h_2 => cases he
  rename_i n
  simp only [Rel] at hx hst
  obtain ⟨p, hp, rfl⟩ := hx
  subst hst
  have hb := s.at hp
  cases hg : h.get b <;> rw [hg] at he <;> simp only [Blk.onMap] at he <;> try (cases he; done)
  rename_i es clock
  rw [hg] at hb
  obtain ⟨q, a, h1, hB, h3, h4⟩ := hb
  rw [hp] at h1; cases h1
  cases hf : fillE n v es with
  | none => rw [hf] at he; cases he
  | some r =>
    rw [hf] at he
    simp only [Option.some.injEq] at he
    subst he
    obtain ⟨j, g1, g2⟩ := fillE_sound hv es a.toList r hf h4
    have hgo : (getObj p.blk).run P w = .ok (.map a clock) w := by simp only [getObj, Sem.run, h3]
    have hplt := (Array.getElem?_eq_some_iff.1 h3).1
    have g1' : a.findIdx? (fun e => (e.born : Int) == (n : Int)) = some j := by
      rw [← g1]
      cases a with | mk la => simp
    have ha : (asInt (.int kk (Int.ofNat n))).run P w = .ok (n : Int) w := by simp [asInt, asIntOf]
    refine ⟨{ w with heap := w.heap.setIfInBounds p.blk (.map (a.modify j fun e => { e with val := Y }) clock) }, ?_, s.set (p := p) (by rw [hg]; rfl) hp hB (by simp) (fun j hj => ?_) rfl rfl rfl (fun _ _ _ e => by cases e) ?_⟩
    · simp only [Instr.entryStore, Sem.run_bind, hgo, Result.andThen_ok, ha, g1', setObj, Sem.run, h3]
    · simp only [Array.getElem?_setIfInBounds]
      rw [if_neg (fun e => hj e.symm)]
    · exact ⟨p, a.modify j fun e => { e with val := Y }, hp, hB, by simp [hplt], by rw [Array.toList_modify]; exact g2⟩

theorem findE_ask {w : World} {E : Env} {kt : TypeId} {e : EqC} (hE : KeyEqOk P w E kt e) {k : V} {K : Value} (hk : Rel E k K) : ∀ (es : List ME) (l : List MapEntry) (r : Option ME) (i : Nat), findE e k es = some r → MRel E es l →
    (r = none → (Instr.findAsking kt K l i).run P w = .ok none w) ∧
    (∀ m, r = some m → ∃ j en, (Instr.findAsking kt K l i).run P w = .ok (some (i + j, en.val)) w ∧ l[j]? = some en ∧ en.key = K ∧ Rel E m.v en.val ∧ en.born = m.born ∧ Instr.sameBits 10000 K K = true ∧ MRel E es (l.modify j fun en => { en with key := K }))
  | [], l, r, i, h, hr => by
    simp only [MRel] at hr
    subst hr
    simp only [findE, Option.some.injEq] at h
    subst h
    exact ⟨fun _ => rfl, fun m hm => by cases hm⟩
  | m :: ms, l, r, i, h, hr => by
    obtain ⟨en, es, rfl, h1, h2, h3, h4⟩ := hr
    simp only [findE] at h
    cases hs : e.run k m.k with
    | none => rw [hs] at h; cases h
    | some b =>
      rw [hs] at h
      simp only at h
      obtain ⟨q1, q2⟩ := hE _ _ _ _ _ hs hk h1
      cases b with
      | true =>
        simp only [cond_true, Option.some.injEq] at h
        subst h
        obtain ⟨q3, q4⟩ := q2 rfl
        refine ⟨fun h => (by cases h), fun m' hm => ?_⟩
        cases hm
        exact ⟨0, en, by simp [Instr.findAsking, q1], rfl, q3, h2, h3, q4, ⟨_, es, rfl, by rw [← q3]; exact h1, h2, h3, h4⟩⟩
      | false =>
        simp only [cond_false] at h
        obtain ⟨g1, g2⟩ := findE_ask hE hk ms es r (i + 1) h h4
        refine ⟨fun h => by simp [Instr.findAsking, q1, g1 h], fun m' hm => ?_⟩
        obtain ⟨j, en', a1, a2, a3, a4, a5, a6, a7⟩ := g2 m' hm
        exact ⟨j + 1, en', by simp [Instr.findAsking, q1, a1]; omega, by simpa using a2, a3, a4, a5, a6, ⟨en, _, rfl, h1, h2, h3, a7⟩⟩

/-- taking an entry whose key is a pointer -/
theorem mapEntry_ask_sound {w0 : Fr} {E : Env} {h h' : Heap} {w : World} (s : Sim w0 E h w) {t kt et : TypeId} (hu : (underlying t).run P w = .ok (.map kt et) w) {e : EqC} {z : V} {Z : Value} (hz : (zeroValue et).run P w = .ok Z w) (hzr : Rel E z Z)
    {x k v : V} {X K : Value} (hx : Rel E x X) (hk : Rel E k K) (ask : AskOk P w E kt e K) (he : mapEntryV e z h x k = some (v, h')) : Gives w0 P E w (Instr.mapEntry t X K) v h' := by
  unfold mapEntryV at he
  split at he
  case h_2 => cases he
  rename_i b
  simp only [Rel] at hx
  obtain ⟨p, hp, rfl⟩ := hx
  have hb := s.at hp
  cases hg : h.get b <;> rw [hg] at he <;> simp only [Blk.onMap] at he <;> try (cases he; done)
  rename_i es clock
  rw [hg] at hb
  obtain ⟨q, a, h1, hB, h3, h4⟩ := hb
  rw [hp] at h1; cases h1
  have hgo : (getObj p.blk).run P w = .ok (.map a clock) w := by simp only [getObj, Sem.run, h3]
  have hck := ask.check false
  have hplt := (Array.getElem?_eq_some_iff.1 h3).1
  have done0 : ∀ (es' : List ME) (a' : Array MapEntry) (c' : Nat), MRel E es' a'.toList →
      ∃ w', (setObj p.blk (.map a' c')).run P w = .ok () w' ∧ Sim w0 E (h.set b (.mp es' c')) w' := by
    intro es' a' c' hm
    refine ⟨{ w with heap := w.heap.setIfInBounds p.blk (.map a' c') }, by simp only [setObj, Sem.run, h3], s.set (p := p) (by rw [hg]; rfl) hp hB (by simp) (fun j hj => ?_) rfl rfl rfl (fun _ _ _ e => by cases e) ?_⟩
    · simp only [Array.getElem?_setIfInBounds]
      rw [if_neg (fun e => hj e.symm)]
    · exact ⟨p, a', hp, hB, by simp [hplt], hm⟩
  cases hf : findE e k es with
  | none => rw [hf] at he; cases he
  | some r =>
    rw [hf] at he
    simp only at he
    obtain ⟨g1, g2⟩ := findE_ask ask.eq hk es a.toList r 0 hf h4
    cases r with
    | none =>
      simp only [Option.some.injEq, Prod.mk.injEq] at he
      obtain ⟨rfl, rfl⟩ := he
      have a1 := ask.find (g1 rfl)
      obtain ⟨w', d1, d2⟩ := done0 (es ++ [⟨k, z, clock⟩]) (a.push ⟨K, Z, clock⟩) (clock + 1) (by
        have : ∀ (es : List ME) (l : List MapEntry), MRel E es l → MRel E (es ++ [⟨k, z, clock⟩]) (l ++ [⟨K, Z, clock⟩]) := by
          intro es
          induction es with
          | nil => intro l hl; simp only [MRel] at hl; subst hl; exact ⟨_, _, rfl, hk, hzr, rfl, rfl⟩
          | cons m ms ih => intro l hl; obtain ⟨en, es', rfl, b1, b2, b3, b4⟩ := hl; exact ⟨en, _, rfl, b1, b2, b3, ih _ b4⟩
        simpa using this es a.toList h4)
      refine ⟨.tuple #[Z, goInt clock], w', E, ?_, Env.le.refl E, ?_, d2⟩
      · simp only [Instr.mapEntry, Sem.run_bind, hu, Result.andThen_ok, hgo, hck, a1, hz, d1, Sem.run_pure]
      · simp only [Rel, RelL]; exact ⟨_, rfl, _, _, rfl, hzr, _, _, rfl, rfl, rfl⟩
    | some m =>
      simp only [Option.some.injEq, Prod.mk.injEq] at he
      obtain ⟨rfl, rfl⟩ := he
      obtain ⟨j, en, a1, a2, a3, a4, a5, a6, a7⟩ := g2 m rfl
      rw [Nat.zero_add] at a1
      have b1 := ask.find a1
      have e1 : a[j]? = some en := by simpa using a2
      obtain ⟨w', d1, d2⟩ := done0 es (a.modify j fun en => { en with key := K }) clock (by rw [Array.toList_modify]; exact a7)
      refine ⟨.tuple #[en.val, goInt en.born], w', E, ?_, Env.le.refl E, ?_, d2⟩
      · simp only [Instr.mapEntry, Sem.run_bind, hu, Result.andThen_ok, hgo, hck, b1, e1, Option.map, Option.getD, a3, Instr.keyThatStays, a6, if_true, Sem.run_pure, d1]
      · simp only [Rel, RelL]; exact ⟨_, rfl, _, _, rfl, a4, _, _, rfl, by rw [a5]; rfl, rfl⟩

theorem mapEntryC_sound {w0 : Fr} {E : Env} {h h' : Heap} {w : World} (s : Sim w0 E h w) {t : TypeId} {x k v : V} {X K : Value} (hx : Rel E x X) (hk : Rel E k K) (he : (mapEntryC P t).run x k h = .val v h') : Gives w0 P E w (Instr.mapEntry t X K) v h' := by
  unfold mapEntryC at he
  cases ht : tiOf P t with
  | none => rw [ht] at he; cases he
  | some ti =>
    rw [ht] at he
    simp only at he
    have hu := run_und ht w
    cases hund : ti.und <;> rw [hund] at he <;> simp only at he <;> try (cases he; done)
    rename_i kt et
    rw [hund] at hu
    cases het : tiOf P et with
    | none => rw [het] at he; cases he
    | some ei =>
      rw [het] at he
      simp only at he
      cases hz : ei.zero with
      | none => rw [hz] at he; cases he
      | some z =>
        rw [hz] at he
        simp only at he
        obtain ⟨zx, hzx, hzr, _⟩ := run_zero (P := P) het hz E w
        cases hpt : ptrT P kt with
        | true =>
          rw [hpt] at he
          simp only [cond_true, entRun] at he
          cases hm : mapEntryV ⟨ptrEqH h⟩ z h x k with
          | none => rw [hm] at he; cases he
          | some r =>
            rw [hm] at he
            simp only [OR.val.injEq] at he
            obtain ⟨rfl, rfl⟩ := he
            exact mapEntry_ask_sound s hu hzx hzr hx hk (ask_ptr s hpt K) hm
        | false =>
          rw [hpt] at he
          simp only [cond_false] at he
          cases hst : structT P kt with
          | false => rw [hst] at he; cases he
          | true =>
            rw [hst] at he
            simp only [cond_true, entRunS] at he
            cases hg : keyGood P kt k with
            | false => rw [hg] at he; cases he
            | true =>
              rw [hg] at he
              simp only [cond_true] at he
              cases hm : mapEntryV (structEq P kt) z h x k with
              | none => rw [hm] at he; cases he
              | some r =>
                rw [hm] at he
                simp only [OR.val.injEq] at he
                obtain ⟨rfl, rfl⟩ := he
                exact mapEntry_ask_sound s hu hzx hzr hx hk (ask_struct hst hg hk) hm
end
end Go.Proofs.YtpfmfpakbfkfoaaGreatDoor.Am

namespace Go.Proofs.YtpfmfpakbfkfoaaGreatDoor.Am
variable [Lay]
set_option linter.unusedSectionVars false
set_option linter.unusedVariables false
set_option linter.unusedSimpArgs false
open Go Go.RowKit

/-! Range over maps. -/
section
variable {P : Program}

theorem hasN_iff (n : Nat) : ∀ (l : List Nat), hasN l n = true ↔ n ∈ l
  | [] => by simp [hasN]
  | x :: xs => by
    simp only [hasN]
    cases hb : Nat.beq x n with
    | true => have := Nat.eq_of_beq_eq_true hb; subst this; simp
    | false =>
      have hne : x ≠ n := fun e => by subst e; rw [Nat.beq_refl] at hb; cases hb
      simp [hasN_iff n xs, Ne.symm hne]

theorem hasN_arr {a : Array Nat} {seen : List Nat} (h : a.toList = seen.reverse) (n : Nat) : a.contains n = hasN seen n := by
  rw [Bool.eq_iff_iff, hasN_iff, Array.contains_iff_mem, ← Array.mem_toList_iff, h, List.mem_reverse]

theorem leftOf_rel {E : Env} {a : Array Nat} {seen : List Nat} (h : a.toList = seen.reverse) : ∀ (ms : List ME) (l : List MapEntry), MRel E ms l → MRel E (leftOf seen ms) (l.filter fun e => !a.contains e.born)
  | [], l, hr => by simp only [MRel] at hr; subst hr; rfl
  | m :: ms, l, hr => by
    obtain ⟨e, es, rfl, h1, h2, h3, h4⟩ := hr
    have ih := leftOf_rel h ms es h4
    have hq : a.contains e.born = hasN seen m.born := by rw [hasN_arr h, h3]
    cases hb : hasN seen m.born with
    | true =>
      rw [hb] at hq
      rw [List.filter_cons_of_neg (by rw [hq]; decide)]
      simp only [leftOf, hb, cond_true]
      exact ih
    | false =>
      rw [hb] at hq
      rw [List.filter_cons_of_pos (by rw [hq]; decide)]
      simp only [leftOf, hb, cond_false]
      exact ⟨e, _, rfl, h1, h2, h3, ih⟩

theorem allNew_rel {E : Env} {last : Nat} : ∀ (ms : List ME) (l : List MapEntry), MRel E ms l → l.all (fun e => decide (e.born ≥ last)) = allNew last ms
  | [], l, hr => by simp only [MRel] at hr; subst hr; rfl
  | m :: ms, l, hr => by
    obtain ⟨e, es, rfl, h1, h2, h3, h4⟩ := hr
    simp only [allNew, List.all_cons, allNew_rel ms es h4, h3]
    cases hb : Nat.ble last m.born with
    | true => rw [Nat.ble_eq] at hb; simp [hb]
    | false =>
      have : ¬ last ≤ m.born := by rw [← Nat.ble_eq, hb]; simp
      simp [this]

theorem bornAt_rel {E : Env} {n : Nat} : ∀ (ms : List ME) (l : List MapEntry) (m : ME), MRel E ms l → bornAt n ms = some m → ∃ e, l.find? (fun e => e.born == n) = some e ∧ Rel E m.k e.key ∧ Rel E m.v e.val
  | [], l, m, hr, h => by cases h
  | x :: xs, l, m, hr, h => by
    obtain ⟨e, es, rfl, h1, h2, h3, h4⟩ := hr
    simp only [bornAt] at h
    cases hb : Nat.beq x.born n with
    | true =>
      rw [hb] at h
      simp only [cond_true, Option.some.injEq] at h
      subst h
      have := Nat.eq_of_beq_eq_true hb
      exact ⟨e, by simp [List.find?_cons, h3, this], h1, h2⟩
    | false =>
      rw [hb] at h
      simp only [cond_false] at h
      obtain ⟨e', g1, g2⟩ := bornAt_rel xs es m h4 h
      have hne : x.born ≠ n := fun e => by rw [e, Nat.beq_refl] at hb; cases hb
      exact ⟨e', by simp [List.find?_cons, h3, hne, g1], g2⟩

theorem onMap_val {k : Blk} {f : List ME → Nat → OR} {v : V} {h' : Heap} (h : k.onMap .fail f = .val v h') : ∃ es clock, k = .mp es clock ∧ f es clock = .val v h' := by
  cases k <;> simp only [Blk.onMap] at h <;> first
    | (cases h; done)
    | exact ⟨_, _, rfl, h⟩

theorem onPtr_val' {v : V} {f : Pa → Nat → OR} {r : V} {h' : Heap} (h : v.onPtr .fail f = .val r h') : ∃ b off, v = .ptr b off ∧ f b off = .val r h' := by
  cases v <;> simp only [V.onPtr] at h <;> first
    | (cases h; done)
    | exact ⟨_, _, rfl, h⟩

theorem rangeMap_sound {w0 : Fr} {E : Env} {h h' : Heap} {w : World} (s : Sim w0 E h w) {t kt et : TypeId} (hu : (underlying t).run P w = .ok (.map kt et) w) {x v : V} {X : Value} (hx : Rel E x X) (he : rangeMap x h = .val v h') : Gives w0 P E w (Instr.range t X) v h' := by
  have hnone := s.fresh h.next (Nat.le_refl _)
  have hput : E.put (pa h.next) ⟨w.heap.size, 0, 0⟩ (pa h.next) = some ⟨w.heap.size, 0, 0⟩ := by unfold Env.put; rw [if_pos rfl]
  unfold rangeMap at he
  split at he
  · simp only [OR.val.injEq] at he
    obtain ⟨rfl, rfl⟩ := he
    simp only [Rel] at hx
    subst hx
    refine ⟨.pointer (some ⟨w.heap.size, 0, none⟩), { w with heap := w.heap.push (.mapIter none 0 #[] 0) }, _, ?_, Env.le_put (p := ⟨w.heap.size, 0, 0⟩) hnone, ?_, s.alloc 0 ?_⟩
    · simp only [Instr.range, Sem.run_bind, hu, Result.andThen_ok, Sem.run_pure, run_newObj]
    · simp only [Rel]; exact ⟨_, hput, by simp⟩
    · exact ⟨_, none, #[], hput, s.frame.size, rfl, by simp, rfl, rfl⟩
  · rename_i c
    obtain ⟨es, clock, hg, he⟩ := onMap_val he
    simp only [OR.val.injEq] at he
    obtain ⟨rfl, rfl⟩ := he
    simp only [Rel] at hx
    obtain ⟨p, hp, rfl⟩ := hx
    have hb := s.at hp
    rw [hg] at hb
    obtain ⟨q, a, h1, hB, h3, h4⟩ := hb
    rw [hp] at h1; cases h1
    have hgo : (getObj p.blk).run P w = .ok (.map a clock) w := by simp only [getObj, Sem.run, h3]
    have hle : E.le (E.put (pa h.next) ⟨w.heap.size, 0, 0⟩) := Env.le_put hnone
    refine ⟨.pointer (some ⟨w.heap.size, 0, none⟩), { w with heap := w.heap.push (.mapIter (some p.blk) clock #[] clock) }, _, ?_, hle, ?_, s.alloc 0 ?_⟩
    · simp only [Instr.range, Sem.run_bind, hu, Result.andThen_ok, Sem.run_pure, hgo, run_newObj]
    · simp only [Rel]; exact ⟨_, hput, by simp⟩
    · exact ⟨_, some p.blk, #[], hput, s.frame.size, rfl, by simp, rfl, p, hle _ _ hp, rfl⟩
  · cases he

theorem nextM_sound {w0 : Fr} {E : Env} {h h' : Heap} {w : World} (s : Sim w0 E h w) {x v : V} {X : Value} {ty : TypeId} (hx : Rel E x X) (he : nextM x h = .val v h') : Gives w0 P E w (Instr.next X false ty) v h' := by
  unfold nextM at he
  obtain ⟨b, off, rfl, h1⟩ := onPtr_val' he
  clear he
  have hb := s.at (p := _) (by simp only [Rel] at hx; exact hx.choose_spec.1)
  cases hg : h.get b <;> rw [hg] at h1 <;> simp only at h1 <;> try (cases h1; done)
  rename_i src since seen last
  rw [hg] at hb
  cases h0 : Nat.beq off 0 with
  | false => rw [h0] at h1; cases h1
  | true =>
  rw [h0] at h1
  simp only [cond_true] at h1
  have h0 := Nat.eq_of_beq_eq_true h0
  subst h0
  obtain ⟨p, m, a, hp, hB, hbase, hh, ha, hsrc⟩ := hb
  simp only [Rel] at hx
  obtain ⟨q, hq, rfl⟩ := hx
  rw [hp] at hq; cases hq
  have hgo : (getObj p.blk).run P w = .ok (.mapIter m since a last) w := by simp only [getObj, Sem.run, hh]
  have over : Rel E (.tuple [.bool false]) (.tuple #[.bool false]) := by simp only [Rel, RelL]; exact ⟨_, rfl, _, _, rfl, rfl, rfl⟩
  cases src with
  | none =>
    simp only [SrcRel] at hsrc
    subst hsrc
    simp only [OR.val.injEq] at h1
    obtain ⟨rfl, rfl⟩ := h1
    refine Gives.plain (Z := .tuple #[.bool false]) s ?_ over
    simp only [Instr.next, hbase, Sem.run_bind, hgo, Result.andThen_ok, Sem.run_pure]
  | some c =>
    simp only [SrcRel] at hsrc
    obtain ⟨pc, hpc, rfl⟩ := hsrc
    simp only at h1
    obtain ⟨es, clock, hgc, h1⟩ := onMap_val h1
    have hbc := s.at hpc
    rw [hgc] at hbc
    obtain ⟨q, me, g1, _, g3, g4⟩ := hbc
    rw [hpc] at g1; cases g1
    have hgm : (getObj pc.blk).run P w = .ok (.map me clock) w := by simp only [getObj, Sem.run, g3]
    cases hc : (!seen.isEmpty && (!es.isEmpty && allNew last es)) with
    | true => rw [hc] at h1; cases h1
    | false =>
      rw [hc] at h1
      simp only [cond_false] at h1
      have e1 : a.isEmpty = seen.isEmpty := by
        have : a.toList.isEmpty = seen.reverse.isEmpty := by rw [ha]
        simpa using this
      have e2 : me.isEmpty = es.isEmpty := by
        cases es with
        | nil => simp only [MRel] at g4; have : me = #[] := Array.toList_inj.1 g4
                 simp [this]
        | cons y ys => obtain ⟨e, l, hl, _⟩ := g4; have : me.toList.isEmpty = false := by rw [hl]; rfl
                       simpa using this
      have e3 : me.all (fun e => decide (e.born ≥ last)) = allNew last es := by rw [← allNew_rel es _ g4, Array.all_toList]
      have hcond : (!a.isEmpty && !me.isEmpty && me.all (fun e => decide (e.born ≥ last))) = false := by rw [e1, e2, e3, Bool.and_assoc]; exact hc
      have hleft := leftOf_rel (E := E) ha es _ g4
      have hfil : (me.filter fun e => !a.contains e.born).toList = me.toList.filter fun e => !a.contains e.born := by simp
      cases hl : leftOf seen es with
      | nil =>
        rw [hl] at h1 hleft
        simp only [nextOne, OR.val.injEq] at h1
        obtain ⟨rfl, rfl⟩ := h1
        simp only [MRel] at hleft
        have hF : (me.filter fun e => !a.contains e.born) = #[] := by
          apply Array.toList_inj.1; rw [hfil, hleft]
        refine Gives.plain (Z := .tuple #[.bool false]) s ?_ over
        simp only [Instr.next, hbase, Sem.run_bind, hgo, Result.andThen_ok, hgm, hcond, Bool.false_eq_true, if_false, hF, Sem.run_pure]
        simp [choose, Sem.run, Question.forced]
      | cons y ys =>
        rw [hl] at h1 hleft
        cases ys with
        | cons _ _ => cases h1
        | nil =>
          simp only [nextOne] at h1
          cases hlt : Nat.blt y.born since with
          | false => rw [hlt] at h1; cases h1
          | true =>
            rw [hlt] at h1
            simp only [cond_true, OR.val.injEq] at h1
            obtain ⟨rfl, rfl⟩ := h1
            rw [Nat.blt_eq] at hlt
            obtain ⟨e, r, hr, k1, k2, k3, k4⟩ := hleft
            simp only [MRel] at k4
            subst k4
            have hF : (me.filter fun e => !a.contains e.born) = #[e] := by
              apply Array.toList_inj.1; rw [hfil, hr]
            rw [← k3] at hlt ⊢
            let o' : Obj := .mapIter (some pc.blk) since (a.push e.born) clock
            let w' : World := { w with heap := w.heap.setIfInBounds p.blk o' }
            have hplt := (Array.getElem?_eq_some_iff.1 hh).1
            have hso : (setObj p.blk o').run P w = .ok () w' := by simp only [setObj, Sem.run, hh]; rfl
            have hnl : ¬ since ≤ e.born := by omega
            refine ⟨.tuple #[.bool true, e.key, e.val], w', E, ?_, Env.le.refl E, ?_, s.set (p := p) (by rw [hg]; rfl) hp hB (by simp [w']) (fun j hj => ?_) rfl rfl rfl (fun _ _ _ e => by cases e) ?_⟩
            · simp only [Instr.next, hbase, Sem.run_bind, hgo, Result.andThen_ok, hgm, hcond, Bool.false_eq_true, if_false, hF, Sem.run_pure]
              have h1 : (#[e] : Array MapEntry).filter (fun x => decide (x.born < since)) = #[e] := by simp [hlt]
              have h2 : (#[e] : Array MapEntry).filter (fun x => decide (x.born ≥ since)) = #[] := by simp [hlt]
              have hch : (choose (.mapNext 1)).run P w = .ok 0 w := by simp [choose, Sem.run, Question.forced]
              simp only [h1, h2]
              simp [hch]
              change ((setObj p.blk o').run P w).andThen _ = _
              rw [hso]
              rfl
            · simp only [Rel, RelL]
              exact ⟨_, rfl, _, _, rfl, rfl, _, _, rfl, k1, _, _, rfl, k2, rfl⟩
            · simp only [w', Array.getElem?_setIfInBounds]
              rw [if_neg (fun e => hj e.symm)]
            · exact ⟨p, some pc.blk, a.push e.born, hp, hB, hbase, by simp [w', hplt, o'], by simp [ha], pc, hpc, rfl⟩

theorem entryV_sound {w0 : Fr} {E : Env} {h h' : Heap} {w : World} (s : Sim w0 E h w) {x v : V} {X : Value} (hx : Rel E x X) (he : entryV x h = .val v h') : Gives w0 P E w (Instr.entry X) v h' := by
  unfold entryV at he
  obtain ⟨b, off, rfl, h1⟩ := onPtr_val' he
  clear he
  have hb := s.at (p := _) (by simp only [Rel] at hx; exact hx.choose_spec.1)
  cases hg : h.get b <;> rw [hg] at h1 <;> simp only at h1 <;> try (cases h1; done)
  rename_i src since seen last
  rw [hg] at hb
  cases h0 : Nat.beq off 0 with
  | false => rw [h0] at h1; cases h1
  | true =>
  rw [h0] at h1
  simp only [cond_true] at h1
  have h0 := Nat.eq_of_beq_eq_true h0
  subst h0
  obtain ⟨p, m, a, hp, hB, hbase, hh, ha, hsrc⟩ := hb
  simp only [Rel] at hx
  obtain ⟨q, hq, rfl⟩ := hx
  rw [hp] at hq; cases hq
  have hgo : (getObj p.blk).run P w = .ok (.mapIter m since a last) w := by simp only [getObj, Sem.run, hh]
  cases src with
  | none => cases h1
  | some c =>
    simp only [SrcRel] at hsrc
    obtain ⟨pc, hpc, rfl⟩ := hsrc
    simp only at h1
    cases seen with
    | nil => cases h1
    | cons n ns =>
    simp only at h1
    obtain ⟨es, clock, hgc, h1⟩ := onMap_val h1
    have hbc := s.at hpc
    rw [hgc] at hbc
    obtain ⟨q, me, g1, _, g3, g4⟩ := hbc
    rw [hpc] at g1; cases g1
    have hgm : (getObj pc.blk).run P w = .ok (.map me clock) w := by simp only [getObj, Sem.run, g3]
    rename_i h1o _
    clear h1o
    cases hcl : Nat.beq clock last with
    | false => rw [hcl] at h1; cases h1
    | true =>
      rw [hcl] at h1
      simp only [cond_true] at h1
      have := Nat.eq_of_beq_eq_true hcl
      subst this
      cases hbo : bornAt n es with
      | none => rw [hbo] at h1; cases h1
      | some y =>
        rw [hbo] at h1
        simp only [OR.val.injEq] at h1
        obtain ⟨rfl, rfl⟩ := h1
        obtain ⟨e, f1, f2, f3⟩ := bornAt_rel es _ y g4 hbo
        have hback : a.back? = some n := by
          have : a.toList.getLast? = some n := by rw [ha]; simp
          simpa using this
        have hfind : me.find? (fun e => e.born == n) = some e := by rw [← f1]; simp
        refine Gives.plain (Z := .tuple #[e.key, e.val]) s ?_ ?_
        · simp only [Instr.entry, hbase, Sem.run_bind, hgo, Result.andThen_ok, hback, hgm, bne_self_eq_false, Bool.false_eq_true, if_false, hfind, Sem.run_pure]
        · simp only [Rel, RelL]
          exact ⟨_, rfl, _, _, rfl, f2, _, _, rfl, f3, rfl⟩
end
end Go.Proofs.YtpfmfpakbfkfoaaGreatDoor.Am

namespace Go.Proofs.YtpfmfpakbfkfoaaGreatDoor.Am
variable [Lay]
set_option linter.unusedSectionVars false
set_option linter.unusedVariables false
set_option linter.unusedSimpArgs false
open Go Go.RowKit
section
variable {P : Program}

/-! Appending zeros: append(s, make([]T, n)...). -/
theorem appW_sound {w0 : Fr} {E : Env} {h h' : Heap} {w : World} (s : Sim w0 E h w) {t u e : TypeId} {size : Nat} (hpos0 : 1 ≤ size) {x v : V} {X Y : Value} {ty : TypeId} {n : Nat} {new : List V} {l : List Value}
    (hl : RelL E new l) (hll : new.length = n * size) (hnt : n ≤ top)
    (hin : ∀ (w' : World) (A : Option Addr) (sLen sCap : Nat), sLen + n ≤ sCap → (∀ a, A = some a → (storeCells (a.add (sLen * size)) l).run P w = .ok () w') → (A = none → w' = w) →
      (Builtin.append_ #[t, u] ty #[.slice A sLen sCap, Y]).run P w = .ok (.slice A (sLen + n) sCap) w')
    (hout : ∀ (A : Option Addr) (sLen sCap : Nat) (old : List Value), (∀ w' : World, w'.heap = w.heap → (Builtin.firstCells size sLen (.slice A sLen sCap)).run P w' = .ok old.toArray w') → ¬ sLen + n ≤ sCap → sLen + n ≤ top → old.length = sLen * size → l.length = n * size →
      ∃ cap rest w', sLen + n ≤ cap ∧ cap * size ≤ ((old ++ l).toArray ++ rest).size ∧
      (Builtin.append_ #[t, u] ty #[.slice A sLen sCap, Y]).run P w = .ok (.slice (some ⟨w.heap.size, 0, none⟩) (sLen + n) cap) w' ∧
      w'.heap = w.heap.push (.cells ((old ++ l).toArray ++ rest) e) ∧ w'.os = w.os ∧ w'.tape = w.tape ∧ w'.output = w.output)
    (he : appW size n new x h = .val v h') (hx : Rel E x X) : Gives w0 P E w (Builtin.append_ #[t, u] ty #[X, Y]) v h' := by
  have hlL : l.length = n * size := by rw [hl.length, hll]
  unfold appW at he
  cases x <;> simp only at he <;> try (cases he; done)
  · -- a slice of known capacity
    rename_i b off len cap
    simp only [Rel] at hx
    obtain ⟨p, hp, hlc, rfl⟩ := hx
    simp only [appKnown] at he
    cases hroom : Nat.ble (len + n) cap with
    | true =>
      rw [hroom] at he
      simp only [cond_true] at he
      rw [Nat.ble_eq] at hroom
      cases hlay : lay h b (off + len * size) new with
      | none => rw [hlay] at he; cases he
      | some h1 =>
      rw [hlay] at he
      simp only [OR.val.injEq] at he
      obtain ⟨rfl, rfl⟩ := he
      obtain ⟨w', hst, hs'⟩ := lay_sound (P := P) s hl hlay hp
      refine ⟨_, w', E, hin w' _ _ _ hroom (fun a ha => ?_) (fun ha => by cases ha), Env.le.refl E, ?_, hs'⟩
      · cases ha
        rw [add_eq, Nat.add_assoc]
        exact hst
      · simp only [Rel]; exact ⟨p, hp, hroom, rfl⟩
    | false =>
      rw [hroom] at he
      simp only [cond_false] at he
      have hroom' : ¬ len + n ≤ cap := by rw [← Nat.ble_eq, hroom]; simp
      obtain ⟨hb, he⟩ := cond_val he
      simp only [Bool.and_eq_true, Nat.ble_eq] at hb
      cases hold : srcAt h size b off len with
      | none => rw [hold] at he; cases he
      | some old =>
      rw [hold] at he
      simp only at he
      cases hgrow : newGrow h (old ++ new) size false with
      | none => rw [hgrow] at he; cases he
      | some h1 =>
      rw [hgrow] at he
      simp only [OR.val.injEq] at he
      obtain ⟨rfl, rfl⟩ := he
      obtain ⟨q, lo, hq, hlo, hol, hor⟩ := srcAt_sound (P := P) s ⟨p, hp⟩ hold
      rw [hp] at hq; cases hq
      obtain ⟨c, rest, w', k1, k2, k3, k4, k5, k6, k7⟩ := hout (some ⟨p.blk, p.base + off, none⟩) (len) (cap) _
        (fun w' hw => by simp only [Builtin.firstCells]; exact hor w' hw) hroom' hb.1 (by rw [hlo.length, hol]) hlL
      obtain ⟨E', g1, g2, g3⟩ := newGrow_sound (w' := w') (fz := (0, 0)) s (hlo.append hl) hgrow k2 (.inr (Nat.le_refl _)) (fun _ => rfl) k4 k5 k6 k7
      refine ⟨_, w', E', k3, g1, ?_, g3⟩
      simp only [Rel]
      exact ⟨_, g2, by simp only; omega, by simp⟩
  · -- one that was appended to
    rename_i b off len idx
    have hx0 := hx
    simp only [Rel] at hx
    obtain ⟨p, hp, hic, rfl⟩ := hx
    simp only [appGrown] at he
    cases hn0 : Nat.beq n 0 with
    | true =>
      rw [hn0] at he
      simp only [cond_true] at he
      cases he
      rw [Nat.beq_eq] at hn0
      subst hn0
      have hl0 : l = [] := by cases l with | nil => rfl | cons _ _ => simp at hlL
      subst hl0
      refine ⟨_, w, E, hin w _ _ _ (by omega) (fun a _ => rfl) (fun ha => by cases ha), Env.le.refl E, ?_, s⟩
      simpa using hx0
    | false =>
      rw [hn0] at he
      simp only [cond_false] at he
      have hbk := s.at hp
      cases hg : h.get b with
      | dead => rw [hg] at he; cases he
      | view _ _ => rw [hg] at he; cases he
      | iter _ _ => rw [hg] at he; cases he
      | mp _ _ => rw [hg] at he; cases he
      | lp _ => rw [hg] at he; cases he
      | dfr => rw [hg] at he; cases he
      | mset _ => rw [hg] at he; cases he
      | mit _ _ _ _ => rw [hg] at he; cases he
      | cells N cs esz st =>
        rw [hg] at he hbk
        simp only [Blk.on] at he
        obtain ⟨hb, he⟩ := cond_val he
        simp only [Bool.and_eq_true, Nat.ble_eq, Nat.beq_eq] at hb
        obtain ⟨⟨hesz, hnt2, hones⟩, hoff⟩ := hb
        cases hold : srcAt h size b off len with
        | none => rw [hold] at he; cases he
        | some old =>
        rw [hold] at he
        simp only at he
        cases hgrow : newGrow (h.set b .dead) (old ++ new) size st with
        | none => rw [hgrow] at he; cases he
        | some h1 =>
        rw [hgrow] at he
        simp only [OR.val.injEq] at he
        obtain ⟨rfl, rfl⟩ := he
        obtain ⟨q, lo, hq, hlo, hol, hor⟩ := srcAt_sound (P := P) s ⟨p, hp⟩ hold
        rw [hp] at hq; cases hq
        obtain ⟨hN, q, c, el, fz, e1, hB, hh, hfz, hst, hcap, hok⟩ := hbk
        rw [hp] at e1; cases e1
        have hpos := hpos0
        have hcap := hcap (by omega)
        rw [hesz] at hcap
        have sk := s.kill hp
        by_cases hroom : len + n ≤ p.cap - idx
        · -- in place
          have hlt := (Array.getElem?_eq_some_iff.1 hh).1
          have hidx : (idx + len + n) * size ≤ p.cap * size := Nat.mul_le_mul_right _ (by omega)
          have hbound : p.base + off + len * size + 0 + l.length ≤ c.size := by
            rw [hlL, hoff]
            have : (idx + len + n) * size = idx * size + len * size + n * size := by rw [Nat.add_mul, Nat.add_mul]
            omega
          have hst2 := run_storeCells (P := P) hlt el fz (p.base + off + len * size) l c 0 (ones_mem hones hl) hbound hfz
          rw [withC_same hh, Nat.add_zero] at hst2
          have hrunA := hin (withC w p.blk (layC c (p.base + off + len * size) l) el fz) (some ⟨p.blk, p.base + off, none⟩) _ _ hroom
            (fun a ha => by cases ha; rw [add_eq]; exact hst2) (fun ha => by cases ha)
          unfold newGrow at hgrow
          obtain ⟨hc, hgrow⟩ := cond_some hgrow
          simp only [Bool.and_eq_true, Nat.ble_eq] at hc
          simp only [Option.some.injEq] at hgrow
          subst hgrow
          have hnone := s.fresh h.next (Nat.le_refl _)
          have hle : E.le (E.put (pa h.next) ⟨p.blk, p.base + off, p.cap - idx⟩) := Env.le_put hnone
          have hput : E.put (pa h.next) ⟨p.blk, p.base + off, p.cap - idx⟩ (pa h.next) = some ⟨p.blk, p.base + off, p.cap - idx⟩ := by unfold Env.put; rw [if_pos rfl]
          refine ⟨_, _, _, hrunA, hle, ?_, Sim.add (p := ⟨p.blk, p.base + off, p.cap - idx⟩) sk (by rw [withC_size]; exact Nat.le_refl _) (fun j _ hj => withC_other _ _ _ hj) hB (fun b' q' hown hq' heq => ?_) rfl rfl rfl (fun _ _ _ e => by injection e with _ _ e3; omega) ?_⟩
          · simp only [Rel]
            exact ⟨_, hput, by simp only; omega, by simp⟩
          · rw [Heap.get_set] at hown
            by_cases hbb : b = b'
            · rw [if_pos hbb] at hown; cases hown
            · rw [if_neg hbb] at hown
              exact hbb (s.inj b b' p q' (by rw [hg]; rfl) hown hp hq' heq.symm)
          · have hlen2 : (old ++ new).length = (len + n) * size := by rw [List.length_append, hol, hll, Nat.add_mul]
            have hexp : (len + n) * size = len * size + n * size := Nat.add_mul _ _ _
            refine ⟨hc.1, _, _, el, fz, hput, hB, withC_heap hlt _ _ _, by rw [layC_size]; exact hfz, hst, fun _ => ?_, ?_⟩
            · rw [layC_size]
              simp only
              have : idx * size + (p.cap - idx) * size = p.cap * size := by rw [← Nat.add_mul]; congr 1; omega
              omega
            · refine ⟨by rw [layC_size, hlen2, Nat.add_mul]; simp only; omega, fun i y hi hy => ?_⟩
              rw [puts_get _ _ _ _ (by omega) (by omega), if_pos (by omega), Nat.sub_zero]
              rw [layC_get _ _ _ _ (by omega)] at hy
              simp only at hy
              by_cases hio : i < len * size
              · rw [if_neg (by omega)] at hy
                rw [List.getElem?_append_left (by omega)]
                have hgo := hor w rfl
                have hreal := run_loadCells (P := P) (w := w) (off := p.base + off) (n := len * size) hh (by omega)
                rw [hreal] at hgo
                simp only [Result.ok.injEq, and_true] at hgo
                have hlo2 : lo = (c.toList.drop (p.base + off)).take (len * size) := by
                  have := congrArg Array.toList hgo
                  simpa using this.symm
                obtain ⟨y', hy', hr⟩ := hlo.get i old[i] (List.getElem?_eq_getElem (by omega))
                rw [List.getElem?_eq_getElem (by omega)]
                rw [hlo2] at hy'
                rw [List.getElem?_take_of_lt (by omega), List.getElem?_drop] at hy'
                simp only [Array.getElem?_toList] at hy'
                rw [hy] at hy'
                cases hy'
                exact Rel.mono hle _ _ hr
              · rw [if_pos (by omega)] at hy
                rw [List.getElem?_append_right (by omega)]
                have e3 : p.base + off + i - (p.base + off + len * size) = i - old.length := by omega
                rw [e3] at hy
                have hlt3 : i - old.length < new.length := by omega
                obtain ⟨y', hy', hr⟩ := hl.get (i - old.length) new[i - old.length] (List.getElem?_eq_getElem hlt3)
                rw [hy] at hy'; cases hy'
                rw [List.getElem?_eq_getElem hlt3]
                exact Rel.mono hle _ _ hr
        · -- elsewhere
          obtain ⟨c2, rest, w', k1, k2, k3, k4, k5, k6, k7⟩ := hout (some ⟨p.blk, p.base + off, none⟩) (len) (p.cap - idx) _
            (fun w' hw => by simp only [Builtin.firstCells]; exact hor w' hw) hroom hnt2 (by rw [hlo.length, hol]) hlL
          obtain ⟨E', g1, g2, g3⟩ := newGrow_sound (w' := w') (fz := (0, 0)) sk (hlo.append hl) hgrow k2 (.inr (Nat.le_refl _)) (fun _ => rfl) k4 k5 k6 k7
          refine ⟨_, w', E', k3, g1, ?_, g3⟩
          simp only [Rel]
          exact ⟨_, g2, by simp only; omega, by simp⟩
  · -- nil
    simp only [Rel] at hx
    subst hx
    simp only [appNil] at he
    cases hn0 : Nat.beq n 0 with
    | true =>
      rw [hn0] at he
      simp only [cond_true] at he
      cases he
      rw [Nat.beq_eq] at hn0
      subst hn0
      exact Gives.plain s (hin w _ _ _ (by omega) (fun a ha => by cases ha) (fun _ => rfl)) (by simp [Rel])
    | false =>
      rw [hn0] at he
      simp only [cond_false] at he
      have hn1 : ¬ n = 0 := by intro e; subst e; simp at hn0
      cases hgrow : newGrow h new size false with
      | none => rw [hgrow] at he; cases he
      | some h1 =>
      rw [hgrow] at he
      simp only [OR.val.injEq] at he
      obtain ⟨rfl, rfl⟩ := he
      obtain ⟨c, rest, w', k1, k2, k3, k4, k5, k6, k7⟩ := hout (none) (0) (0) []
        (fun w' _ => by simp [Builtin.firstCells]) (by omega) (by omega) (by simp) hlL
      obtain ⟨E', g1, g2, g3⟩ := newGrow_sound (w' := w') (fz := (0, 0)) s hl hgrow k2 (.inr (Nat.le_refl _)) (fun _ => rfl) k4 k5 k6 k7
      refine ⟨_, w', E', k3, g1, ?_, g3⟩
      simp only [Rel]
      exact ⟨_, g2, by simp only; omega, by simp⟩

/-- what is known of the types of such an append -/
structure ZTypes (P : Program) (t u e : TypeId) (size bytes : Nat) (k : IntKind) (z : Value) : Prop where
  ut : ∀ w, (underlying t).run P w = .ok (.slice e) w
  uu : ∀ w, (underlying u).run P w = .ok (.int k) w
  sz : ∀ w, (sizeOf e).run P w = .ok size w
  by_ : ∀ w, ∃ i, (typeInfo e).run P w = .ok i w ∧ i.bytes = bytes
  zr : ∀ w, (zeroValue e).run P w = .ok z w
  zs : z.cells.size = size
  pos : 1 ≤ size
  small : bytes ≤ 4096

theorem zeroCells_zero (c : Array Value) : Builtin.zeroCells c 0 = #[] := by simp [Builtin.zeroCells]

theorem run_appZ_in {t u e : TypeId} {size bytes : Nat} {k : IntKind} {z : Value} (H : ZTypes P t u e size bytes k z) {n : Nat} (hn : n ≤ 100000) {ty : TypeId} {w w' : World} {A : Option Addr} {sLen sCap : Nat} (hroom : sLen + n ≤ sCap)
    (hst : ∀ a, A = some a → (storeCells (a.add (sLen * size)) (Builtin.zeroCells z.cells n).toList).run P w = .ok () w') (hnone : A = none → w' = w) :
    (Builtin.append_ #[t, u] ty #[.slice A sLen sCap, .int .i64 n]).run P w = .ok (.slice A (sLen + n) sCap) w' := by
  have hw : IntKind.i64.wrap (n : Int) = n := by unfold IntKind.wrap; simp [IntKind.bits, IntKind.signed]; omega
  obtain ⟨i, hi, hib⟩ := H.by_ w
  have h48 : ¬ (281474976710656 < (n : Int) * (i.bytes : Int)) := by
    rw [hib]
    have h1 : n * bytes ≤ 100000 * 4096 := Nat.mul_le_mul hn H.small
    have h2 : ((n * bytes : Nat) : Int) = (n : Int) * (bytes : Int) := Int.natCast_mul _ _
    omega
  have hneg : ¬ ((n : Int) < 0) := by omega
  have hsz : size ≠ 0 := by have := H.pos; omega
  have ha : ∀ w, (asInt (.int .i64 (n : Int))).run P w = .ok (n : Int) w := fun w => by simp [asInt, asIntOf]
  have ha0 : ∀ w, (asInt (.int .i64 0)).run P w = .ok 0 w := fun w => by simp [asInt, asIntOf]
  have hw0 : IntKind.i64.wrap 0 = 0 := by decide
  cases A with
  | none =>
    have := hnone rfl; subst this
    by_cases h0 : n = 0
    · subst h0
      simp [Builtin.append_, H.ut, H.uu, H.sz, ha0, hi, hw0, (show sLen ≤ sCap from by omega)]
    · simp [Builtin.append_, H.ut, H.uu, H.sz, H.zr, ha, hi, h48, hw, hroom, hneg, hsz, h0]
  | some a =>
    have := hst a rfl
    by_cases h0 : n = 0
    · subst h0
      rw [zeroCells_zero] at this
      simp [Builtin.append_, H.ut, H.uu, H.sz, ha0, hi, hw0, (show sLen ≤ sCap from by omega), this]
    · simp [Builtin.append_, H.ut, H.uu, H.sz, H.zr, ha, hi, h48, hw, hroom, hneg, Nat.mul_ne_zero h0 hsz, this]

theorem run_appZ_out {t u e : TypeId} {size bytes : Nat} {k : IntKind} {z : Value} (H : ZTypes P t u e size bytes k z) {n : Nat} (hn : n ≤ 100000) {ty : TypeId} {w : World} (A : Option Addr) (sLen sCap : Nat) (old : List Value)
    (hold : ∀ w' : World, w'.heap = w.heap → (Builtin.firstCells size sLen (.slice A sLen sCap)).run P w' = .ok old.toArray w') (hroom : ¬ sLen + n ≤ sCap) (hsmall : sLen + n ≤ top) (ho : old.length = sLen * size) (hl : (Builtin.zeroCells z.cells n).toList.length = n * size) :
    ∃ cap rest w', sLen + n ≤ cap ∧ cap * size ≤ ((old ++ (Builtin.zeroCells z.cells n).toList).toArray ++ rest).size ∧
      (Builtin.append_ #[t, u] ty #[.slice A sLen sCap, .int .i64 n]).run P w = .ok (.slice (some ⟨w.heap.size, 0, none⟩) (sLen + n) cap) w' ∧
      w'.heap = w.heap.push (.cells ((old ++ (Builtin.zeroCells z.cells n).toList).toArray ++ rest) e) ∧ w'.os = w.os ∧ w'.tape = w.tape ∧ w'.output = w.output := by
  have hw : IntKind.i64.wrap (n : Int) = n := by simp only [IntKind.wrap, IntKind.bits, IntKind.signed]; simp; omega
  obtain ⟨i, hi, hib⟩ := H.by_ w
  have hti : P.info? e = some i := by
    simp only [typeInfo, Sem.run_bind, run_program, Result.andThen_ok] at hi
    cases hq : P.info? e with
    | none => rw [hq] at hi; simp at hi
    | some j => rw [hq] at hi; simp at hi; rw [hi]
  have hi' : ∀ w', (typeInfo e).run P w' = .ok i w' := fun w' => run_typeInfo_some hti w'
  have hzz : ¬ (281474976710656 < (n : Int) * (i.bytes : Int)) := by
    rw [hib]
    have h1 : n * bytes ≤ 100000 * 4096 := Nat.mul_le_mul hn H.small
    have h2 : ((n * bytes : Nat) : Int) = (n : Int) * (bytes : Int) := Int.natCast_mul _ _
    omega
  have h48 : ¬ (281474976710656 < Builtin.nextslicecap (sLen + n) sCap * i.bytes) := by
    have h1 : sCap < sLen + n := by omega
    have := growslice_fits (bytes := i.bytes) h1 (by
      rw [hib]
      have h2 : (sLen + n) * bytes ≤ top * 4096 := Nat.mul_le_mul hsmall H.small
      unfold top at h2
      omega)
    omega
  have hb0 : ¬ (9223372036854775807 < ((sLen : Int) + (n : Int))) := by unfold top at hsmall; omega
  have hneg : ¬ ((n : Int) < 0) := by omega
  have hsz : size ≠ 0 := by have := H.pos; omega
  have ha : ∀ w, (asInt (.int .i64 (n : Int))).run P w = .ok (n : Int) w := fun w => by simp [asInt, asIntOf]
  have ha0 : ∀ w, (asInt (.int .i64 0)).run P w = .ok 0 w := fun w => by simp [asInt, asIntOf]
  have hw0 : IntKind.i64.wrap 0 = 0 := by decide
  let q : Question := .appendCap (sLen + n) sCap e
  let cap := q.cut (w.tape w.drawn q)
  have hcap : sLen + n ≤ cap := by show sLen + n ≤ (sLen + n) + _; omega
  refine ⟨cap, Builtin.zeroCells z.cells (cap - (sLen + n)), w.drew.alloc (.cells ((old ++ (Builtin.zeroCells z.cells n).toList).toArray ++ Builtin.zeroCells z.cells (cap - (sLen + n))) e), hcap, ?_, ?_, rfl, rfl, rfl, rfl⟩
  · simp only [Array.size_append, List.size_toArray, List.length_append, ho, hl]
    have : (Builtin.zeroCells z.cells (cap - (sLen + n))).size = (cap - (sLen + n)) * size := by simp [Builtin.zeroCells, H.zs]
    rw [this, ← Nat.add_mul, ← Nat.add_mul]
    exact Nat.mul_le_mul_right _ (by omega)
  · have f2 := hold w.drew rfl
    by_cases h0 : n = 0
    · subst h0
      have hroom0 : ¬ sLen ≤ sCap := by omega
      have hb00 : ¬ (9223372036854775807 < (sLen : Int)) := by omega
      rw [Nat.add_zero] at h48
      simp [Builtin.append_, H.ut, H.uu, H.sz, H.zr, ha0, hw0, hi', hroom0, h48, hb00, Question.forced, f2, newRow]
      refine ⟨rfl, ?_⟩
      have e1 : (old ++ (Builtin.zeroCells z.cells 0).toList).toArray = old.toArray := by rw [zeroCells_zero]; simp
      rw [e1]
      rfl
    · simp [Builtin.append_, H.ut, H.uu, H.sz, H.zr, ha, hw, hzz, hneg, Nat.mul_ne_zero h0 hsz, hroom, hi', h48, hb0, Question.forced, f2, newRow]
      refine ⟨rfl, ?_⟩
      have e1 : (old ++ (Builtin.zeroCells z.cells n).toList).toArray = old.toArray ++ Builtin.zeroCells z.cells n := by simp
      rw [e1, Array.append_assoc]
end
end Go.Proofs.YtpfmfpakbfkfoaaGreatDoor.Am
