/- The chapter's functions, walked by the abstract machine: plain lemmas, no condition. -/
import Derived.Test.YtdldbckpfpbdgaaGreatDoorM8

namespace Go.Proofs.YtdldbckpfpbdgaaGreatDoor
open Go Am
noncomputable def ctxS0 : Ctx := ctx.snap 6 [snap0]
theorem ctxS0_ok : PrimOk ctxS0 := PrimOk.snap (C := ctx) (D := ctx) primOk follows namesOk (by decide) rfl primOk rfl rfl (by
  intro s hs
  simp only [List.mem_cons, List.not_mem_nil, or_false] at hs
  subst hs
  exact ⟨_, snap0_good⟩)
noncomputable def ctxS1 : Ctx := ctxS0.snap 7 [snap1, snap2]
theorem ctxS1_ok : PrimOk ctxS1 := PrimOk.snap (C := ctxS0) (D := ctx) ctxS0_ok follows namesOk (by decide) rfl primOk rfl rfl (by
  intro s hs
  simp only [List.mem_cons, List.not_mem_nil, or_false] at hs
  rcases hs with rfl | rfl
  · exact ⟨_, snap1_good⟩
  · exact ⟨_, snap2_good⟩)
noncomputable def ctxS2 : Ctx := ctxS1.snap 11 [snap3, snap4]
theorem ctxS2_ok : PrimOk ctxS2 := PrimOk.snap (C := ctxS1) (D := ctx) ctxS1_ok follows namesOk (by decide) rfl primOk rfl rfl (by
  intro s hs
  simp only [List.mem_cons, List.not_mem_nil, or_false] at hs
  rcases hs with rfl | rfl
  · exact ⟨_, snap3_good⟩
  · exact ⟨_, snap4_good⟩)
noncomputable def ctxS3 : Ctx := ctxS2.snap 13 [snap5]
theorem ctxS3_ok : PrimOk ctxS3 := PrimOk.snap (C := ctxS2) (D := ctx) ctxS2_ok follows namesOk (by decide) rfl primOk rfl rfl (by
  intro s hs
  simp only [List.mem_cons, List.not_mem_nil, or_false] at hs
  subst hs
  exact ⟨_, snap5_good⟩)
noncomputable def ctxS4 : Ctx := ctxS3.snap 14 [snap6]
theorem ctxS4_ok : PrimOk ctxS4 := PrimOk.snap (C := ctxS3) (D := ctx) ctxS3_ok follows namesOk (by decide) rfl primOk rfl rfl (by
  intro s hs
  simp only [List.mem_cons, List.not_mem_nil, or_false] at hs
  subst hs
  exact ⟨_, snap6_good⟩)
/-- the pieces are taken as they are written down -/
noncomputable def ctxS : Ctx := ctxS4
theorem primOkS : PrimOk ctxS := ctxS4_ok
set_option maxRecDepth 100000 in
theorem known_run : truly ctxS 100000 3 [] = true := by kernel_rfl
end Go.Proofs.YtdldbckpfpbdgaaGreatDoor
