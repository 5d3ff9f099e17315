/- The abstract machine and its walks (a verified interpreter of the model's code: plain definitions and lemmas, no condition). -/
import Derived.Test.YtdijfhlomnbjpaaGreatDoorM3

namespace Go.Proofs.YtdijfhlomnbjpaaGreatDoor.Am
variable [Lay]
set_option linter.unusedSectionVars false
set_option linter.unusedVariables false
open Go Go.RowKit

/-! Closed calls that are run apart. -/
def V.plain : V → Bool
  | .bool _ | .int _ _ | .str _ => true
  | _ => false

theorem Rel.plain {E E' : Env} {v : V} {x : Value} (hp : v.plain = true) (h : Rel E v x) : Rel E' v x := by
  cases v <;> simp only [V.plain] at hp <;> first
    | (cases hp; done)
    | (simp only [Rel] at h ⊢; exact h)

theorem RelL.plain {E E' : Env} : ∀ {vs : List V} {xs : List Value}, vs.all V.plain = true → RelL E vs xs → RelL E' vs xs
  | [], xs, _, h => h
  | v :: vs, xs, hp, h => by
    simp only [List.all_cons, Bool.and_eq_true] at hp
    obtain ⟨y, ys, rfl, h1, h2⟩ := h
    exact ⟨y, ys, rfl, Rel.plain hp.1 h1, RelL.plain hp.2 h2⟩

def anyEq (args : List V) : List (List V) → Bool
  | [] => false
  | l :: ls => bif eqLs eqV1 args l then true else anyEq args ls

theorem anyEq_mem {args : List V} : ∀ {ls : List (List V)}, anyEq args ls = true → args ∈ ls
  | [], h => by cases h
  | l :: ls, h => by
    simp only [anyEq] at h
    cases h1 : eqLs eqV1 args l with
    | true =>
      have := eqLs_eq (fun a b => eqV1_eq) h1
      subst this
      simp
    | false =>
      rw [h1] at h
      exact List.mem_cons_of_mem _ (anyEq_mem h)

/-- at these arguments: true -/
def closedP (ls : List (List V)) : PrimC := ⟨fun args h => bif anyEq args ls then .val (.bool true) h else .fail⟩

theorem closedP_ok {C : Ctx} (hM : C.P.follows .mixedOrders = true) (hN : NamesOk C.P) (hP : PrimOk C) {f : FuncId} (hf : Nat.beq f yieldId = false) (hx : C.ext f = none) {ls : List (List V)}
    (hrun : ∀ l ∈ ls, l.all V.plain = true ∧ ∃ n, truly C n f l = true) {args : List V} {h h' : Heap} {v : V} (he : (closedP ls).run args h = .val v h') :
    (∃ fn, C.P.funcs[f]? = some fn ∧ fn.body.isSome = true) ∧ ∀ (w0 : Fr) E w xs, RelL E args xs → Sim w0 E h w →
      Calls C.P f xs.toArray w fun e w' => ∃ E' x, e = .returned x ∧ E.le E' ∧ Rel E' v x ∧ Sim w0 E' h' w' := by
  obtain ⟨hc, h1⟩ := cond_val he
  simp only [OR.val.injEq] at h1
  obtain ⟨rfl, rfl⟩ := h1
  obtain ⟨hpl, n, ht⟩ := hrun _ (anyEq_mem hc)
  unfold truly at ht
  cases hcall : callN C n f args Heap.empty with
  | fail => rw [hcall] at ht; cases ht
  | pan _ _ => rw [hcall] at ht; cases ht
  | val v hh =>
    rw [hcall] at ht
    simp only at ht
    cases v <;> simp only at ht <;> try (cases ht; done)
    subst ht
    have main : ∀ (w : World) (xs : List Value), Lay.ok w → RelL (fun _ => none) args xs → (∃ fn, C.P.funcs[f]? = some fn ∧ fn.body.isSome = true) ∧ Calls C.P f xs.toArray w fun e w' => ∃ E' x, e = .returned x ∧ Env.le (fun _ => none) E' ∧ Rel E' (.bool true) x ∧ Sim ⟨w, fun _ => none⟩ E' hh w' :=
      fun w xs hw hxs => callN_calls hM hN hP hf hx hcall hxs (sim_empty w hw)
    refine ⟨?_, fun w0 E w xs hxs s => ?_⟩
    · -- a body there is
      have hb : ∃ fn, C.P.funcs[f]? = some fn ∧ fn.body.isSome = true := by
        unfold callN callWith at hcall
        rw [hf, cond_false, hx] at hcall
        simp only [fnP] at hcall
        cases hq : C.prim f with
        | some p =>
          rw [hq] at hcall
          simp only at hcall
          cases hr : p.run args Heap.empty with
          | fail => rw [hr] at hcall; cases hcall
          | pan _ _ => rw [hr] at hcall; cases hcall
          | val v1 h1 => exact (hP.1 f p args _ _ _ hq hr).1
        | none =>
          rw [hq] at hcall
          simp only [fnC] at hcall
          cases hfn : C.P.funcs[f]? with
          | none => rw [hfn] at hcall; cases hcall
          | some fn =>
            rw [hfn] at hcall
            simp only at hcall
            cases hbo : fn.body with
            | none => rw [hbo] at hcall; cases hcall
            | some c => exact ⟨fn, rfl, by rw [hbo]; rfl⟩
      exact hb
    · refine (main w xs (Lay.keep s.laid s.frame) (RelL.plain hpl hxs)).2.mono fun e w' hq => ?_
      obtain ⟨E', x, rfl, _, q2, q3⟩ := hq
      exact ⟨E, x, rfl, Env.le.refl E, Rel.plain rfl q2, s.below q3.frame⟩
end Go.Proofs.YtdijfhlomnbjpaaGreatDoor.Am
