/- The chapter's functions, walked by the abstract machine: plain lemmas, no condition. -/
import Derived.Test.YtjaljpbephedpaaGreatDoorM10

namespace Go.Proofs.YtjaljpbephedpaaGreatDoor
open Go Am
noncomputable def ctxL10 : Ctx := ctx.snap 31 [snap7]
theorem ctxL10_ok : PrimOk ctxL10 := PrimOk.snaps (C := ctx) primOk follows namesOk (by decide) (by
  intro s hs
  simp only [List.mem_cons, List.not_mem_nil, or_false] at hs
  subst hs
  exact ⟨ctx, rfl, rfl, primOk, _, snap7_good⟩)
noncomputable def ctxL1 : Ctx := ctxL10
theorem primOkL1 : PrimOk ctxL1 := ctxL10_ok
end Go.Proofs.YtjaljpbephedpaaGreatDoor
