/- The chapter's functions, walked by the abstract machine: plain lemmas, no condition. -/
import Derived.Test.YtdijfhlomnbjpaaGreatDoorM7

namespace Go.Proofs.YtdijfhlomnbjpaaGreatDoor
open Go Am
/-- awake, and a text that is refused, are run apart -/
noncomputable def ctx2 : Ctx := ⟨Tryz.prog, fun f => bif Nat.beq f 7 then some (closedP [[]]) else bif Nat.beq f 12 then some (closedP [[.str [108, 101, 116, 32, 120, 32, 61, 32, 49, 32, 60, 32, 50, 32, 60, 32, 51, 59, 59], .int .i64 270, .int .i64 14]]) else ctx.prim f, ctx.ext⟩
theorem primOk2 : PrimOk ctx2 := by
  refine ⟨fun f p args h v h' hp he => ?_, primOk.2⟩
  simp only [ctx2, cond_beq] at hp
  by_cases h7 : f = 7
  · rw [if_pos h7] at hp
    cases hp
    subst h7
    exact closedP_ok (C := ctx) follows namesOk primOk (by decide) (by kernel_rfl) (fun l hl => by
      simp only [List.mem_singleton] at hl
      subst hl
      exact ⟨rfl, _, awake_run⟩) he
  · rw [if_neg h7] at hp
    by_cases h12 : f = 12
    · rw [if_pos h12] at hp
      cases hp
      subst h12
      exact closedP_ok (C := ctx) follows namesOk primOk (by decide) (by kernel_rfl) (fun l hl => by
        simp only [List.mem_singleton] at hl
        subst hl
        exact ⟨rfl, _, faulty_run⟩) he
    · rw [if_neg h12] at hp
      exact primOk.1 f p args h v h' hp he
set_option maxRecDepth 100000 in
theorem known_run : truly ctx2 100000 5 [] = true := by kernel_rfl
end Go.Proofs.YtdijfhlomnbjpaaGreatDoor
