/- The chapter's functions, walked by the abstract machine: plain lemmas, no condition. -/
import Derived.Test.YtjaljpbephedpaaGreatDoorM12

namespace Go.Proofs.YtjaljpbephedpaaGreatDoor
open Go Am
noncomputable def ctxS0 : Ctx := ctx.snap 5 [snap0, snap1, snap2]
theorem ctxS0_ok : PrimOk ctxS0 := PrimOk.snaps (C := ctx) primOk follows namesOk (by decide) (by
  intro s hs
  simp only [List.mem_cons, List.not_mem_nil, or_false] at hs
  rcases hs with rfl | rfl | rfl
  · exact ⟨ctx, rfl, rfl, primOk, _, snap0_good⟩
  · exact ⟨ctx, rfl, rfl, primOk, _, snap1_good⟩
  · exact ⟨ctx, rfl, rfl, primOk, _, snap2_good⟩)
noncomputable def ctxS1 : Ctx := ctxS0.snap 8 [snap3]
theorem ctxS1_ok : PrimOk ctxS1 := PrimOk.snaps (C := ctxS0) ctxS0_ok follows namesOk (by decide) (by
  intro s hs
  simp only [List.mem_cons, List.not_mem_nil, or_false] at hs
  subst hs
  exact ⟨ctx, rfl, rfl, primOk, _, snap3_good⟩)
noncomputable def ctxS2 : Ctx := ctxS1.snap 15 [snap4, snap6]
theorem ctxS2_ok : PrimOk ctxS2 := PrimOk.snaps (C := ctxS1) ctxS1_ok follows namesOk (by decide) (by
  intro s hs
  simp only [List.mem_cons, List.not_mem_nil, or_false] at hs
  rcases hs with rfl | rfl
  · exact ⟨ctx, rfl, rfl, primOk, _, snap4_good⟩
  · exact ⟨ctx, rfl, rfl, primOk, _, snap6_good⟩)
noncomputable def ctxS3 : Ctx := ctxS2.snap 16 [snap5, snap8]
theorem ctxS3_ok : PrimOk ctxS3 := PrimOk.snaps (C := ctxS2) ctxS2_ok follows namesOk (by decide) (by
  intro s hs
  simp only [List.mem_cons, List.not_mem_nil, or_false] at hs
  rcases hs with rfl | rfl
  · exact ⟨ctx, rfl, rfl, primOk, _, snap5_good⟩
  · exact ⟨ctxL1, rfl, rfl, primOkL1, _, snap8_good⟩)
/-- the pieces are taken as they are written down -/
noncomputable def ctxS : Ctx := ctxS3
theorem primOkS : PrimOk ctxS := ctxS3_ok
set_option maxRecDepth 100000 in
theorem known_run : truly ctxS 100000 3 [] = true := by kernel_rfl
end Go.Proofs.YtjaljpbephedpaaGreatDoor
