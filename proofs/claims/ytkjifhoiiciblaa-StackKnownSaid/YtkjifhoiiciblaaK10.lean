/- The abstract machine, part K10 (a verified interpreter of the model's code: plain definitions and lemmas, no condition). -/
import Derived.Test.YtkjifhoiiciblaaK9
namespace Go.Proofs.Ytkjifhoiiciblaa.Am
open Go Go.RowKit

section
variable {P : Program}

theorem fieldD_some {t : TypeId} {i : Nat} {f : Field} (h : fieldD P t i = some f) : ∃ ti fs, tiOf P t = some ti ∧ ti.und = .struct fs ∧ fs[i]? = some f := by
  unfold fieldD at h
  cases ht : tiOf P t with
  | none => rw [ht] at h; cases h
  | some ti =>
    rw [ht] at h
    simp only at h
    cases hu : ti.und <;> rw [hu] at h <;> simp only at h <;> try (cases h; done)
    exact ⟨ti, _, rfl, hu, h⟩

theorem fieldAddrC_sound {E : Env} {t : TypeId} {i : Nat} {x v : V} {X : Value} (he : (fieldAddrC P t i).run x = some v) (hx : Rel E x X) (w : World) :
    ∃ Z, (Instr.fieldAt t X i).run P w = .ok Z w ∧ Rel E v Z := by
  unfold fieldAddrC at he
  cases hf : fieldD P t i with
  | none => rw [hf] at he; cases he
  | some f =>
    rw [hf] at he
    simp only at he
    cases hfi : tiOf P f.type with
    | none => rw [hfi] at he; cases he
    | some fi =>
      rw [hfi] at he
      simp only at he
      cases hz : Nat.beq fi.size 0 with
      | true => rw [hz] at he; cases he
      | false =>
        rw [hz] at he
        simp only [cond_false] at he
        obtain ⟨b, off, rfl, h1⟩ := onPtr_some he
        simp only [Option.some.injEq] at h1
        subst h1
        simp only [Rel] at hx
        obtain ⟨p, hp, rfl⟩ := hx
        obtain ⟨ti, fs, ht, hu, hfs⟩ := fieldD_some hf
        have hu' := run_und ht w
        rw [hu] at hu'
        have hne : ¬ fi.size = 0 := by intro e; rw [e] at hz; simp at hz
        refine ⟨.pointer (some ⟨p.blk, p.base + off + f.offset, none⟩), ?_, ?_⟩
        · simp only [Instr.fieldAt, Sem.run_bind, hu', Result.andThen_ok, hfs, Instr.sureAddr, Sem.run_pure, fieldPlace, run_size hfi, if_neg hne, add_eq]
        · simp only [Rel]
          exact ⟨p, hp, by simp [Nat.add_assoc]⟩

theorem fieldC_sound {E : Env} {t : TypeId} {i : Nat} {x v : V} {X : Value} (he : (fieldC P t i).run x = some v) (hx : Rel E x X) (w : World) :
    ∃ Z, (Instr.field t X i).run P w = .ok Z w ∧ Rel E v Z := by
  unfold fieldC at he
  cases hf : fieldD P t i with
  | none => rw [hf] at he; cases he
  | some f =>
    rw [hf] at he
    simp only at he
    cases x <;> simp only at he <;> try (cases he; done)
    simp only [Rel] at hx
    obtain ⟨a, rfl, hx⟩ := hx
    obtain ⟨ti, fs, ht, hu, hfs⟩ := fieldD_some hf
    have hu' := run_und ht w
    rw [hu] at hu'
    obtain ⟨Y, hY, hr⟩ := partC_sound hx he w
    exact ⟨Y, by simp only [Instr.field, Sem.run_bind, hu', Result.andThen_ok, hfs, asAgg, Sem.run_pure, hY], hr⟩

theorem inRange_iff {i : Int} {n : Nat} (h : inRange i n = true) : 0 ≤ i ∧ i < n := by
  simp only [inRange, leB_eq, Bool.and_eq_true, Bool.not_eq_true', decide_eq_true_eq, decide_eq_false_iff_not] at h
  omega

theorem indexAddrC_sound {E : Env} {t : TypeId} {x ix v : V} {X IX : Value} (he : (indexAddrC P t).run x ix = some v) (hx : Rel E x X) (hi : Rel E ix IX) (w : World) :
    ∃ Z, (Instr.indexAt t X IX).run P w = .ok Z w ∧ Rel E v Z := by
  unfold indexAddrC at he
  cases ht : tiOf P t with
  | none => rw [ht] at he; exact absurd he (none_run _ _ _)
  | some ti =>
    rw [ht] at he
    simp only at he
    cases hu : ti.und with
    | slice e =>
      rw [hu] at he
      simp only at he
      have hu' := run_und ht w
      rw [hu] at hu'
      cases hte : tiOf P e with
      | none => rw [hte] at he; exact absurd he (none_run _ _ _)
      | some ei =>
        rw [hte] at he
        simp only [indexSlice] at he
        obtain ⟨k, i, rfl, h1⟩ := onInt_some he
        have := hi.int_of; subst this
        cases x <;> simp only at h1 <;> try (cases h1; done)
        · rename_i b off len cap
          obtain ⟨h2, h3⟩ := cond_some h1
          simp only [Option.some.injEq] at h3
          subst h3
          have hr := inRange_iff h2
          simp only [Rel] at hx
          obtain ⟨p, hp, _, rfl⟩ := hx
          refine ⟨.pointer (some ⟨p.blk, p.base + off + i.toNat * ei.size, none⟩), ?_, ?_⟩
          · simp only [Instr.indexAt, Sem.run_bind, asIntOf, Sem.run_pure, Result.andThen_ok, hu', run_size hte, add_eq, if_pos hr]
          · simp only [Rel]; exact ⟨p, hp, by simp [Nat.add_assoc]⟩
        · rename_i b off len idx
          obtain ⟨h2, h3⟩ := cond_some h1
          simp only [Option.some.injEq] at h3
          subst h3
          have hr := inRange_iff h2
          simp only [Rel] at hx
          obtain ⟨p, hp, _, rfl⟩ := hx
          refine ⟨.pointer (some ⟨p.blk, p.base + off + i.toNat * ei.size, none⟩), ?_, ?_⟩
          · simp only [Instr.indexAt, Sem.run_bind, asIntOf, Sem.run_pure, Result.andThen_ok, hu', run_size hte, add_eq, if_pos hr]
          · simp only [Rel]; exact ⟨p, hp, by simp [Nat.add_assoc]⟩
    | array n e =>
      rw [hu] at he
      simp only at he
      have hu' := run_und ht w
      rw [hu] at hu'
      cases hte : tiOf P e with
      | none => rw [hte] at he; exact absurd he (none_run _ _ _)
      | some ei =>
        rw [hte] at he
        simp only [indexArr] at he
        obtain ⟨k, i, rfl, h1⟩ := onInt_some he
        have := hi.int_of; subst this
        obtain ⟨b, off, rfl, h2⟩ := onPtr_some h1
        obtain ⟨h3, h4⟩ := cond_some h2
        simp only [Option.some.injEq] at h4
        subst h4
        have hr := inRange_iff h3
        simp only [Rel] at hx
        obtain ⟨p, hp, rfl⟩ := hx
        refine ⟨.pointer (some ⟨p.blk, p.base + off + i.toNat * ei.size, none⟩), ?_, ?_⟩
        · simp only [Instr.indexAt, Sem.run_bind, asIntOf, Sem.run_pure, Result.andThen_ok, hu', run_size hte, add_eq, Instr.sureAddr, if_pos hr]
        · simp only [Rel]; exact ⟨p, hp, by simp [Nat.add_assoc]⟩
    | _ => rw [hu] at he; exact absurd he (none_run _ _ _)

theorem indexC_sound {E : Env} {t : TypeId} {x ix v : V} {X IX : Value} (he : (indexC P t).run x ix = some v) (hx : Rel E x X) (hi : Rel E ix IX) (w : World) :
    ∃ Z, (Instr.index t X IX).run P w = .ok Z w ∧ Rel E v Z := by
  unfold indexC at he
  cases ht : tiOf P t with
  | none => rw [ht] at he; exact absurd he (none_run _ _ _)
  | some ti =>
    rw [ht] at he
    simp only at he
    have hu' := run_und ht w
    cases hu : ti.und with
    | string =>
      rw [hu] at he
      rw [hu] at hu'
      simp only [indexStr] at he
      obtain ⟨k, i, rfl, h1⟩ := onInt_some he
      have := hi.int_of; subst this
      cases x <;> simp only at h1 <;> try (cases h1; done)
      rename_i s
      obtain ⟨h2, h3⟩ := cond_some h1
      have := hx.str_of; subst this
      rw [leB_eq, decide_eq_true_eq] at h2
      cases hg : s[i.toNat]? with
      | none => rw [hg] at h3; cases h3
      | some b =>
        rw [hg] at h3
        simp only [Option.some.injEq] at h3
        subst h3
        have hb : (⟨⟨s⟩⟩ : ByteArray)[i.toNat]? = some b := by
          obtain ⟨hlt, hbe⟩ := List.getElem?_eq_some_iff.1 hg
          rw [getElem?_pos (⟨⟨s⟩⟩ : ByteArray) i.toNat hlt]
          exact congrArg some hbe
        exact ⟨.int .u8 b.toNat, by simp only [Instr.index, Sem.run_bind, asIntOf, Sem.run_pure, Result.andThen_ok, hu', if_pos h2, hb], by simp [Rel]⟩
    | array n e =>
      rw [hu] at he
      rw [hu] at hu'
      simp only at he
      cases hte : tiOf P e with
      | none => rw [hte] at he; exact absurd he (none_run _ _ _)
      | some ei =>
        rw [hte] at he
        simp only [indexAgg] at he
        obtain ⟨k, i, rfl, h1⟩ := onInt_some he
        have := hi.int_of; subst this
        cases x <;> simp only at h1 <;> try (cases h1; done)
        obtain ⟨h2, h3⟩ := cond_some h1
        have hr := inRange_iff h2
        simp only [Rel] at hx
        obtain ⟨a, rfl, hx⟩ := hx
        obtain ⟨Y, hY, hR⟩ := partC_sound hx h3 w
        exact ⟨Y, by simp only [Instr.index, Sem.run_bind, asIntOf, Sem.run_pure, Result.andThen_ok, hu', if_pos hr, run_size hte, hY], hR⟩
    | _ => rw [hu] at he; exact absurd he (none_run _ _ _)

theorem unV_sound {E : Env} {op : UnOp} {x v : V} {X : Value} (he : unV op x = some v) (hx : Rel E x X) (w : World) : ∃ Z, (Op.unary op X).run P w = .ok Z w ∧ Rel E v Z := by
  cases op <;> simp only [unV] at he <;> try (cases he; done)
  · obtain ⟨k, n, rfl, h1⟩ := onInt_some he
    have := hx.int_of; subst this
    simp only [Option.some.injEq] at h1
    subst h1
    exact ⟨_, rfl, by simp [Rel]⟩
  · cases x <;> simp only at he <;> try (cases he; done)
    simp only [Rel] at hx
    subst hx
    simp only [Option.some.injEq] at he
    subst he
    exact ⟨_, rfl, by simp [Rel]⟩

theorem lenOne_sound {E : Env} {t : TypeId} {ti : TI} (ht : tiOf P t = some ti) {x v : V} {X : Value} (he : (lenOne ti.und).run x = some v) (hx : Rel E x X) (ty : TypeId) (rest : List TypeId) (w : World) :
    ∃ Z, (Builtin.len_ (t :: rest).toArray ty #[X]).run P w = .ok Z w ∧ Rel E v Z := by
  have hu' := run_und ht w
  cases hu : ti.und with
  | array n e =>
    rw [hu] at he hu'
    simp only [lenOne, Option.some.injEq] at he
    subst he
    exact ⟨goInt n, by simp [Builtin.len_, hu'], by simp [Rel, goInt]⟩
  | string =>
    rw [hu] at he hu'
    simp only [lenOne] at he
    cases x <;> simp only at he <;> try (cases he; done)
    simp only [Option.some.injEq] at he
    subst he
    rename_i s
    have := hx.str_of; subst this
    exact ⟨goInt (⟨⟨s⟩⟩ : ByteArray).size, by simp [Builtin.len_, hu'], by simp only [Rel, goInt]; rfl⟩
  | slice e =>
    rw [hu] at he hu'
    simp only [lenOne] at he
    cases x <;> simp only at he <;> try (cases he; done)
    all_goals simp only [Option.some.injEq] at he
    all_goals subst he
    all_goals simp only [Rel] at hx
    · obtain ⟨p, hp, _, rfl⟩ := hx
      exact ⟨_, by simp [Builtin.len_, hu']; rfl, by simp [Rel, goInt]⟩
    · obtain ⟨p, hp, _, rfl⟩ := hx
      exact ⟨_, by simp [Builtin.len_, hu']; rfl, by simp [Rel, goInt]⟩
    · obtain ⟨p, hp, _, rfl⟩ := hx
      exact ⟨_, by simp [Builtin.len_, hu']; rfl, by simp [Rel, goInt]⟩
    · subst hx
      exact ⟨_, by simp [Builtin.len_, hu']; rfl, by simp [Rel, goInt]⟩
  | _ => rw [hu] at he; cases he

theorem pickFrom_sound {E : Env} (isMin : Bool) : ∀ (vs : List V) (l : List Value) (k : IntKind) (a : Int) (v : V), RelL E vs l →
    pickFrom (fun b a => if isMin then !Int.leB a b else !Int.leB b a) k a vs = some v → ∀ w, ∃ Z, (l.foldlM (if isMin then Builtin.min2 else Builtin.max2) (.int k a)).run P w = .ok Z w ∧ Rel E v Z
  | [], l, k, a, v, hl, h, w => by
    simp only [RelL] at hl; subst hl
    simp only [pickFrom, Option.some.injEq] at h
    subst h
    exact ⟨_, rfl, by simp [Rel]⟩
  | u :: vs, l, k, a, v, hl, h, w => by
    simp only [RelL] at hl
    obtain ⟨y, ys, rfl, hy, hl⟩ := hl
    simp only [pickFrom] at h
    obtain ⟨k', b, rfl, h1⟩ := onInt_some h
    have := hy.int_of; subst this
    obtain ⟨Z, hZ, hR⟩ := pickFrom_sound isMin vs ys k _ v hl h1 w
    refine ⟨Z, ?_, hR⟩
    rw [List.foldlM_cons, Sem.run_bind]
    cases isMin with
    | true =>
      simp only [if_true, Builtin.min2, Sem.run_pure, Result.andThen_ok, leB_eq] at hZ ⊢
      rw [← hZ]
      by_cases hb : b < a
      · have : ¬ a ≤ b := by omega
        simp [hb, this]
      · have : a ≤ b := by omega
        simp [hb, this]
    | false =>
      simp only [Bool.false_eq_true, if_false, Builtin.max2, Sem.run_pure, Result.andThen_ok, leB_eq] at hZ ⊢
      rw [← hZ]
      by_cases hb : b > a
      · have : ¬ b ≤ a := by omega
        simp [hb, this]
      · have : b ≤ a := by omega
        simp [hb, this]
end
end Go.Proofs.Ytkjifhoiiciblaa.Am
