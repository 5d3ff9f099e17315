/- The chapter's functions, walked by the abstract machine: plain lemmas, no condition. -/
import Derived.Test.YtabfojpbldflcaaGreatDoorM14

namespace Go.Proofs.YtabfojpbldflcaaGreatDoor
open Go Am
noncomputable def ctxS0 : Ctx := ctx.snap 14 [snap5, snap6, snap9, snap10]
theorem ctxS0_ok : PrimOk ctxS0 := PrimOk.snaps (C := ctx) primOk follows namesOk (by decide) (by
  intro s hs
  simp only [List.mem_cons, List.not_mem_nil, or_false] at hs
  rcases hs with rfl | rfl | rfl | rfl
  · exact ⟨ctxL1, rfl, rfl, primOkL1, _, snap5_good⟩
  · exact ⟨ctx, rfl, rfl, primOk, _, snap6_good⟩
  · exact ⟨ctx, rfl, rfl, primOk, _, snap9_good⟩
  · exact ⟨ctx, rfl, rfl, primOk, _, snap10_good⟩)
noncomputable def ctxS1 : Ctx := ctxS0.snap 15 [snap7]
theorem ctxS1_ok : PrimOk ctxS1 := PrimOk.snaps (C := ctxS0) ctxS0_ok follows namesOk (by decide) (by
  intro s hs
  simp only [List.mem_cons, List.not_mem_nil, or_false] at hs
  subst hs
  exact ⟨ctx, rfl, rfl, primOk, _, snap7_good⟩)
noncomputable def ctxS2 : Ctx := ctxS1.snap 16 [snap8]
theorem ctxS2_ok : PrimOk ctxS2 := PrimOk.snaps (C := ctxS1) ctxS1_ok follows namesOk (by decide) (by
  intro s hs
  simp only [List.mem_cons, List.not_mem_nil, or_false] at hs
  subst hs
  exact ⟨ctx, rfl, rfl, primOk, _, snap8_good⟩)
/-- the pieces are taken as they are written down -/
noncomputable def ctxS : Ctx := ctxS2
theorem primOkS : PrimOk ctxS := ctxS2_ok
set_option maxRecDepth 100000 in
theorem known_run : truly ctxS 100000 5 [] = true := by kernel_rfl
end Go.Proofs.YtabfojpbldflcaaGreatDoor
