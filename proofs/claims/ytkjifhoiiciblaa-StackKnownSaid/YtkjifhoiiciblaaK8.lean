/- The abstract machine, part K8 (a verified interpreter of the model's code: plain definitions and lemmas, no condition). -/
import Derived.Test.YtkjifhoiiciblaaK7
namespace Go.Proofs.Ytkjifhoiiciblaa.Am
open Go Go.RowKit

section
variable {P : Program}

theorem none_run (x y : V) (v : V) : ¬ BinC.none.run x y = some v := by simp [BinC.none]

theorem eqGuard_plain {op : BinOp} {t : TypeId} {x y : Operand} {X Y : Value} (h1 : ¬ (X = .nilIface ∧ Y = .nilIface)) (h2 : (∀ a b, ¬ (X = .agg a ∧ Y = .agg b)) ∨ P.eqGuardType P.depth t = false) (w : World) :
    (eqGuard op t x y X Y).run P w = .ok () w := by
  have key : ∀ m : Bool, (if !m then (pure () : Sem Unit) else (eqGuard .eql t x y X Y)).run P w = .ok () w := by
    intro m
    cases m with
    | false => rfl
    | true =>
      simp only [Bool.not_true, Bool.false_eq_true, if_false, eqGuard]
      split
      · exact absurd ⟨rfl, rfl⟩ h1
      · rcases h2 with h2 | h2
        · exact absurd ⟨rfl, rfl⟩ (h2 _ _)
        · simp [h2]
      · rfl
  cases op <;> first
    | rfl
    | exact key true

theorem eqGuard_other {op : BinOp} (h1 : op ≠ .eql) (h2 : op ≠ .neq) (t : TypeId) (x y : Operand) (X Y : Value) (w : World) : (eqGuard op t x y X Y).run P w = .ok () w := by
  cases op <;> first
    | rfl
    | exact absurd rfl h1
    | exact absurd rfl h2

theorem Rel.nilIface_of {E : Env} {x : V} (h : Rel E x .nilIface) : x = .bad ∨ x = .nilIface := by
  cases x <;> simp only [Rel] at h <;> first
    | (left; rfl)
    | (right; rfl)
    | (cases h; done)
    | (obtain ⟨_, _, h⟩ := h; cases h; done)
    | (obtain ⟨_, h, _⟩ := h; cases h; done)
    | (obtain ⟨_, _, _, h⟩ := h; cases h; done)

theorem Rel.agg_of {E : Env} {x : V} {a : Array Value} (h : Rel E x (.agg a)) : x = .bad ∨ ∃ cs, x = .agg cs := by
  cases x <;> simp only [Rel] at h <;> first
    | (left; rfl)
    | (right; exact ⟨_, rfl⟩)
    | (cases h; done)
    | (obtain ⟨_, _, h⟩ := h; cases h; done)
    | (obtain ⟨_, h, _⟩ := h; cases h; done)
    | (obtain ⟨_, _, _, h⟩ := h; cases h; done)

theorem eqTop_sound {E : Env} {t : TypeId} {x y : V} {X Y : Value} {b : Bool} (he : (eqTop P t).run x y = some b) (hx : Rel E x X) (hy : Rel E y Y) (w : World) :
    (Op.equal t X Y).run P w = .ok b w ∧ ¬ (X = .nilIface ∧ Y = .nilIface) ∧ ((∀ a b, ¬ (X = .agg a ∧ Y = .agg b)) ∨ P.eqGuardType P.depth t = false) := by
  have main : (eqC P 12 t).run x y = some b → (Op.equal t X Y).run P w = .ok b w := fun h => eqC_sound 12 Op.maxDepth t x y X Y b (by decide) h hx hy w
  unfold eqTop at he
  cases ht : tiOf P t with
  | none => rw [ht] at he; simp [EqC.none] at he
  | some ti =>
    rw [ht] at he
    simp only at he
    -- what the plain ones are not
    have plain : ∀ (e : EqC), (∀ x y b, e.run x y = some b → x ≠ .bad ∧ x ≠ .nilIface ∧ ∀ cs, x ≠ .agg cs) → e.run x y = some b →
        ¬ (X = .nilIface ∧ Y = .nilIface) ∧ ((∀ a b, ¬ (X = .agg a ∧ Y = .agg b)) ∨ P.eqGuardType P.depth t = false) := by
      intro e hp hr
      obtain ⟨p1, p2, p3⟩ := hp x y b hr
      refine ⟨fun h => ?_, .inl fun a b' h => ?_⟩
      · rw [h.1] at hx
        rcases Rel.nilIface_of hx with h | h
        · exact p1 h
        · exact p2 h
      · rw [h.1] at hx
        rcases Rel.agg_of hx with h | ⟨cs, h⟩
        · exact p1 h
        · exact p3 cs h
    have nilp : ∀ k, 0 < k → k ≠ 5 → ∀ x y b, (eqNilC k).run x y = some b → x ≠ .bad ∧ x ≠ .nilIface ∧ ∀ cs, x ≠ .agg cs := by
      intro k h0 h5 x y b h
      simp only [eqNilC] at h
      obtain ⟨hc, _⟩ := cond_some h
      simp only [Bool.and_eq_true, Nat.beq_eq] at hc
      refine ⟨fun e => ?_, fun e => ?_, fun cs e => ?_⟩ <;> subst e <;> simp [nilKind] at hc <;> omega
    have eq12 : eqC P 12 t = match ti.und with
      | .bool => eqBoolC
      | .int _ => eqIntC
      | .string => eqStrC
      | .pointer e => eqNilC (nilKindD (.pointer e))
      | .slice e => eqNilC (nilKindD (.slice e))
      | .map k e => eqNilC (nilKindD (.map k e))
      | .func a b c => eqNilC (nilKindD (.func a b c))
      | .interface ms => eqNilC (nilKindD (.interface ms))
      | .struct fs => bif P.stoodInHeld t || fs.toList.any (fun f => f.name == "_") then EqC.none else
        ⟨fun x y => match x with
          | .agg xs => match y with
            | .agg ys => eqFieldsC P (eqC P 11) fs.toList xs ys
            | _ => .none
          | _ => .none⟩
      | _ => EqC.none := by
      rw [eqC, ht]
      cases hh : ti.und <;> simp only [hh] <;> rfl
    cases hund : ti.und with
    | struct fs =>
      rw [hund] at he
      simp only at he
      cases hg : P.eqGuardType P.depth t with
      | true => rw [hg] at he; simp [EqC.none] at he
      | false =>
        rw [hg] at he
        simp only [cond_false] at he
        refine ⟨main he, fun h => ?_, .inr rfl⟩
        rw [eq12, hund] at he
        simp only at he
        rw [h.1] at hx
        cases hst : (P.stoodInHeld t || fs.toList.any (fun f => f.name == "_")) with
        | true => rw [hst] at he; simp [EqC.none] at he
        | false =>
          rw [hst] at he
          simp only [cond_false] at he
          rcases Rel.nilIface_of hx with h | h <;> subst h <;> simp at he
    | interface ms =>
      rw [hund] at he
      have hne : ¬ (x = .nilIface ∧ y = .nilIface) := by rintro ⟨rfl, rfl⟩; simp at he
      have he' : (eqC P 12 t).run x y = some b := by
        cases x <;> simp only at he <;> first
          | exact he
          | (cases y <;> simp only at he <;> first | exact he | (cases he; done))
      refine ⟨main he', fun h => ?_, .inl fun a b' h => ?_⟩
      · rw [eq12, hund] at he'
        simp only [eqNilC] at he'
        obtain ⟨hc, _⟩ := cond_some he'
        simp only [Bool.and_eq_true, Nat.beq_eq, nilKindD] at hc
        rw [h.1] at hx; rw [h.2] at hy
        rcases Rel.nilIface_of hx with h | h
        · subst h; simp [nilKind] at hc
        · rcases Rel.nilIface_of hy with h' | h'
          · subst h'; simp [nilKind] at hc
          · exact hne ⟨h, h'⟩
      · rw [eq12, hund] at he'
        simp only [eqNilC] at he'
        obtain ⟨hc, _⟩ := cond_some he'
        simp only [Bool.and_eq_true, Nat.beq_eq, nilKindD] at hc
        rw [h.1] at hx
        rcases Rel.agg_of hx with h | ⟨cs, h⟩ <;> subst h <;> simp [nilKind] at hc
    | bool =>
      rw [hund] at he
      refine ⟨main he, plain (eqC P 12 t) (fun x y b h => ?_) he⟩
      rw [eq12, hund] at h
      simp only [eqBoolC] at h
      cases x <;> simp only at h <;> first | (cases h; done) | exact ⟨by simp, by simp, by simp⟩
    | int k =>
      rw [hund] at he
      refine ⟨main he, plain (eqC P 12 t) (fun x y b h => ?_) he⟩
      rw [eq12, hund] at h
      simp only [eqIntC] at h
      obtain ⟨k, m, rfl, _⟩ := onInt_some h
      exact ⟨by simp, by simp, by simp⟩
    | string =>
      rw [hund] at he
      refine ⟨main he, plain (eqC P 12 t) (fun x y b h => ?_) he⟩
      rw [eq12, hund] at h
      simp only [eqStrC] at h
      cases x <;> simp only at h <;> first | (cases h; done) | exact ⟨by simp, by simp, by simp⟩
    | pointer e =>
      rw [hund] at he
      exact ⟨main he, plain (eqC P 12 t) (by rw [eq12, hund]; exact nilp _ (by simp [nilKindD]) (by simp [nilKindD])) he⟩
    | slice e =>
      rw [hund] at he
      exact ⟨main he, plain (eqC P 12 t) (by rw [eq12, hund]; exact nilp _ (by simp [nilKindD]) (by simp [nilKindD])) he⟩
    | map k e =>
      rw [hund] at he
      exact ⟨main he, plain (eqC P 12 t) (by rw [eq12, hund]; exact nilp _ (by simp [nilKindD]) (by simp [nilKindD])) he⟩
    | func a b c =>
      rw [hund] at he
      exact ⟨main he, plain (eqC P 12 t) (by rw [eq12, hund]; exact nilp _ (by simp [nilKindD]) (by simp [nilKindD])) he⟩
    | _ => rw [hund] at he; simp only [eq12, hund] at he; simp [EqC.none] at he

theorem Rel.int_of {E : Env} {k : IntKind} {n : Int} {X : Value} (h : Rel E (.int k n) X) : X = .int k n := by simpa [Rel] using h
theorem Rel.str_of {E : Env} {s : List UInt8} {X : Value} (h : Rel E (.str s) X) : X = .string ⟨⟨s⟩⟩ := by simpa [Rel] using h

theorem intC_sound {E : Env} {op : BinOp} (hs : op ≠ .shl ∧ op ≠ .shr) {t : TypeId} {x y v : V} {X Y : Value} (he : (intC op).run x y = some v) (hx : Rel E x X) (hy : Rel E y Y) (w : World) :
    ∃ Z, (binOp op t X Y).run P w = .ok Z w ∧ Rel E v Z ∧ (∃ k n, X = .int k n) := by
  have key : ∃ k a b, x = .int k a ∧ y = .int k b := by
    cases op <;> simp only [intC] at he <;> first
      | (exact absurd he (none_run _ _ _))
      | (simp only [intI, intB, intD] at he
         obtain ⟨k, a, rfl, h1⟩ := onInt_some he
         clear he
         obtain ⟨k', b, rfl, h2⟩ := onInt_some h1
         clear h1
         have hk := (cond_some h2).1
         first
           | (have hk' := eqKind_eq hk; subst hk'; exact ⟨_, _, _, rfl, rfl⟩)
           | (rw [Bool.and_eq_true] at hk; have hk' := eqKind_eq hk.1; subst hk'; exact ⟨_, _, _, rfl, rfl⟩))
  obtain ⟨k, a, b, rfl, rfl⟩ := key
  have := hx.int_of; subst this
  have := hy.int_of; subst this
  have hkk : eqKind k k = true := by cases k <;> rfl
  cases op <;> simp only [intC, intI, intB, intD, V.onInt, hkk, cond_true, Bool.true_and, Option.some.injEq, leB_eq, eqB_eq] at he <;> first
    | (exact absurd he (none_run _ _ _))
    | (exact absurd rfl hs.1)
    | (exact absurd rfl hs.2)
    | (subst he; simp [binOp, Op.intArith, Rel]; done)
    | (subst he; simp [binOp, Op.intBits, Rel]; done)
    | (subst he; simp [binOp, Op.intCmp, Rel]; done)
    | (subst he; exact ⟨.bool (a != b), by simp [binOp, Op.intCmp], by simp only [Rel]; rfl, _, _, rfl⟩)
    | (subst he; exact ⟨.bool (decide (a < b)), by simp [binOp, Op.intCmp], by simp only [Rel]; rw [← decide_not]; congr 2; exact propext Int.not_le.symm, _, _, rfl⟩)
    | (subst he; exact ⟨.bool (decide (a > b)), by simp [binOp, Op.intCmp], by simp only [Rel]; rw [← decide_not]; congr 2; exact propext Int.not_le.symm, _, _, rfl⟩)
    | (obtain ⟨h0, h1⟩ := cond_some he
       simp only [Bool.not_eq_true', beq_eq_false_iff_ne] at h0
       simp only [Option.some.injEq] at h1
       subst h1
       simp [binOp, Op.intDiv, Rel, h0])

theorem strC_sound {E : Env} {op : BinOp} {t : TypeId} {x y v : V} {X Y : Value} (he : (strC op).run x y = some v) (hx : Rel E x X) (hy : Rel E y Y) (w : World) :
    ∃ Z, (binOp op t X Y).run P w = .ok Z w ∧ Rel E v Z ∧ (∃ s, X = .string s) := by
  have key : ∃ a b, x = .str a ∧ y = .str b := by
    cases op <;> simp only [strC] at he <;> first
      | (exact absurd he (none_run _ _ _))
      | (simp only [strAdd, strB] at he
         cases x <;> simp only at he <;> first
           | (cases he; done)
           | (cases y <;> simp only at he <;> first
               | (cases he; done)
               | exact ⟨_, _, rfl, rfl⟩))
  obtain ⟨a, b, rfl, rfl⟩ := key
  have := hx.str_of; subst this
  have := hy.str_of; subst this
  have el : ∀ s : List UInt8, (⟨⟨s⟩⟩ : ByteArray).toList = s := fun s => Lib.toList_data _
  cases op <;> simp only [strC, strB, strAdd, Option.some.injEq, beqBytes_eq, ltBytes_eq] at he <;> first
    | (exact absurd he (none_run _ _ _))
    | (subst he; simp [binOp, Op.stringOp, Rel, el]; done)
    | (obtain ⟨h0, h1⟩ := cond_some he
       simp only [Option.some.injEq] at h1
       subst h1
       rw [Nat.ble_eq] at h0
       have h2 : ¬ (9223372036854775807 < (((⟨⟨a⟩⟩ : ByteArray).size : Int) + ((⟨⟨b⟩⟩ : ByteArray).size : Int))) := by
         rw [Lib.size_eq, Lib.size_eq]
         unfold top at h0
         simp only
         omega
       refine ⟨.string (⟨⟨a⟩⟩ ++ ⟨⟨b⟩⟩), ?_, ?_, _, rfl⟩
       · simp only [binOp, Op.stringOp, Sem.run_ite]
         rw [if_neg (by simpa [IntKind.max, IntKind.signed, IntKind.bits] using h2)]
         rfl
       · simp only [Rel]
         congr 1)
end
end Go.Proofs.Ytkjifhoiiciblaa.Am
