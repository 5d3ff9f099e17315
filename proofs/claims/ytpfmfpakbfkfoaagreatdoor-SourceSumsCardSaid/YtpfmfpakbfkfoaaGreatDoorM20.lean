/- The abstract machine and its walks (a verified interpreter of the model's code: plain definitions and lemmas, no condition). -/
import Derived.Test.YtpfmfpakbfkfoaaGreatDoorM5
import Derived.Carry
import Derived.OpenShut
import Derived.ChangeSame
set_option linter.unusedSectionVars false
set_option linter.unusedSimpArgs false
set_option linter.unusedVariables false

namespace Go.Proofs.YtpfmfpakbfkfoaaGreatDoor.Am
variable [Lay]
set_option linter.unusedSectionVars false
open Go Go.RowKit Go.ChangeShapes Go.WideShapes
set_option linter.unusedVariables false

/-! A law with three numbers that is told true: from the machine to the statement's own form. -/
/-- a call without memory that the machine answers by true, for numbers that are stood for -/
theorem truly_args {C : Ctx} (hM : C.P.follows .mixedOrders = true) (hN : NamesOk C.P) {w : World} (hw : Lay.ok w) (hP : PrimOk C) {n : Nat} {f : FuncId} (hf : Nat.beq f yieldId = false) (hx : C.ext f = none) {args : List V} {xs : List Value} (hl : RelL (fun _ => none) args xs) (h : truly C n f args = true) :
    Calls C.P f xs.toArray w fun e w' => e = .returned (.bool true) ∧ Below w.heap.size w w' := by
  unfold truly at h
  cases hc : callN C n f args Heap.empty with
  | fail => rw [hc] at h; cases h
  | pan _ _ => rw [hc] at h; cases h
  | val v hh =>
    rw [hc] at h
    simp only at h
    cases v <;> simp only at h <;> try (cases h; done)
    subst h
    obtain ⟨_, hcl⟩ := callN_calls hM hN hP hf hx hc (w0 := ⟨w, fun _ => none⟩) (E := fun _ => none) (w := w) (xs := xs) hl (sim_empty w hw)
    refine hcl.mono fun e w' hq => ?_
    obtain ⟨E', x, rfl, _, q2, q3⟩ := hq
    simp only [Rel] at q2
    subst q2
    exact ⟨rfl, q3.frame⟩
end Go.Proofs.YtpfmfpakbfkfoaaGreatDoor.Am
namespace Go.Proofs.YtpfmfpakbfkfoaaGreatDoor.Am
set_option linter.unusedSectionVars false
open Go Go.RowKit Go.ChangeShapes Go.WideShapes
set_option linter.unusedVariables false
section
variable {H : Type} {enc : TypeId × Value → H} {P : Program}
theorem ints_law {f : FuncId} {fn : Func} {s : ChangeSpec} {t tb : TypeId} (hps : fn.params = #[t, t, t]) (hu : P.underlying t = some (.int .i64)) (hvars : s.vars = []) (hrt : fn.resultTypes = #[tb]) (hub : P.underlying tb = some .bool)
    (hspec : ∀ ds : List (DataW H), ds.length = fn.params.size → s.fn H (ds ++ []) = { results := [.lit (.bool true)], args := ds })
    {W : World} (hcall : ∀ x a b : Int, (Lit.int .i64 x).wf = true → (Lit.int .i64 a).wf = true → (Lit.int .i64 b).wf = true → Calls P f #[.int .i64 x, .int .i64 a, .int .i64 b] W fun e w' => e = .returned (.bool true) ∧ Below W.heap.size W w')
    {base : Nat} {args : Array Value} {ds gs : List (DataW H)} {before : List MemPlace}
    (hval : ∀ (j : Nat) t v, fn.params[j]? = some t → args[j]? = some v → Value.okWide P W .any base t v)
    (hW : DataW.Whole enc P fn.params.toList s.vars false W args.toList ds gs before) :
    Calls P f args W fun e W' => ∃ v, e = .returned v ∧ s.post enc P fn false true false false W args v W' := by
  have hW' := hW
  obtain ⟨p, q, hA, hV, rfl, hfz, hnd⟩ := hW
  rw [hvars] at hV
  obtain ⟨rfl, rfl⟩ := trodVars_none hV
  rw [hps] at hA hval
  have hal : ∃ v1 v2 v3 d1 d2 d3, args = #[v1, v2, v3] ∧ ds = [d1, d2, d3] := by
    cases hl : args.toList with
    | nil => rw [hl] at hA; cases ds <;> exact hA.elim
    | cons v1 l1 =>
      rw [hl] at hA
      cases ds with
      | nil => exact hA.elim
      | cons d1 e1 =>
        obtain ⟨p1, q1, h1, hA, _⟩ := hA
        cases l1 with
        | nil => cases e1 <;> exact hA.elim
        | cons v2 l2 =>
          cases e1 with
          | nil => exact hA.elim
          | cons d2 e2 =>
            obtain ⟨p2, q2, h2, hA, _⟩ := hA
            cases l2 with
            | nil => cases e2 <;> exact hA.elim
            | cons v3 l3 =>
              cases e2 with
              | nil => exact hA.elim
              | cons d3 e3 =>
                obtain ⟨p3, q3, h3, hA, _⟩ := hA
                cases l3 with
                | cons _ _ => cases e3 <;> exact hA.elim
                | nil =>
                  cases e3 with
                  | cons _ _ => exact hA.elim
                  | nil => exact ⟨v1, v2, v3, d1, d2, d3, Array.ext' hl, rfl⟩
  obtain ⟨v1, v2, v3, d1, d2, d3, rfl, rfl⟩ := hal
  obtain ⟨p1, q1, h1, ⟨p2, q2, h2, ⟨p3, q3, h3, h4, rfl⟩, rfl⟩, rfl⟩ := hA
  obtain ⟨x, rfl, rfl, rfl, hx⟩ := open_int hu (hval 0 t v1 rfl rfl) h1
  obtain ⟨a, rfl, rfl, rfl, ha⟩ := open_int hu (hval 1 t v2 rfl rfl) h2
  obtain ⟨b, rfl, rfl, rfl, hb⟩ := open_int hu (hval 2 t v3 rfl rfl) h3
  refine (hcall x a b hx ha hb).mono fun e W' ⟨he, bel⟩ => ?_
  subst he
  refine ⟨_, rfl, _, [], _, [], [] ++ ([] ++ ([] ++ q3)), [], hW', ?_, ?_, ?_, bel.frame _, fun h => by cases h⟩
  · rw [hspec _ (by rw [hps]; rfl), hrt]
    exact trodAll_mk1 (shut_bool hub _)
  · rw [hspec _ (by rw [hps]; rfl), hps]
    exact ⟨[], _, shut_int hu hx, ⟨[], _, shut_int hu ha, ⟨[], _, shut_int hu hb, h4, rfl⟩, rfl⟩, rfl⟩
  · rw [hspec _ (by rw [hps]; rfl), hvars]
    rfl
end
end Go.Proofs.YtpfmfpakbfkfoaaGreatDoor.Am
