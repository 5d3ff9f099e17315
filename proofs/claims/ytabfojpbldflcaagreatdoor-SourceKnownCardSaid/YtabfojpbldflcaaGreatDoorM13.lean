/- The chapter's functions, walked by the abstract machine: plain lemmas, no condition. -/
import Derived.Test.YtabfojpbldflcaaGreatDoorM12

namespace Go.Proofs.YtabfojpbldflcaaGreatDoor
open Go Am
noncomputable def ctxL10 : Ctx := ctx.snap 15 [snap0]
theorem ctxL10_ok : PrimOk ctxL10 := PrimOk.snaps (C := ctx) primOk follows namesOk (by decide) (by
  intro s hs
  simp only [List.mem_cons, List.not_mem_nil, or_false] at hs
  subst hs
  exact ⟨ctx, rfl, rfl, primOk, _, snap0_good⟩)
noncomputable def ctxL11 : Ctx := ctxL10.snap 53 [snap1]
theorem ctxL11_ok : PrimOk ctxL11 := PrimOk.snaps (C := ctxL10) ctxL10_ok follows namesOk (by decide) (by
  intro s hs
  simp only [List.mem_cons, List.not_mem_nil, or_false] at hs
  subst hs
  exact ⟨ctx, rfl, rfl, primOk, _, snap1_good⟩)
noncomputable def ctxL12 : Ctx := ctxL11.snap 54 [snap2]
theorem ctxL12_ok : PrimOk ctxL12 := PrimOk.snaps (C := ctxL11) ctxL11_ok follows namesOk (by decide) (by
  intro s hs
  simp only [List.mem_cons, List.not_mem_nil, or_false] at hs
  subst hs
  exact ⟨ctx, rfl, rfl, primOk, _, snap2_good⟩)
noncomputable def ctxL13 : Ctx := ctxL12.snap 286 [snap3]
theorem ctxL13_ok : PrimOk ctxL13 := PrimOk.snaps (C := ctxL12) ctxL12_ok follows namesOk (by decide) (by
  intro s hs
  simp only [List.mem_cons, List.not_mem_nil, or_false] at hs
  subst hs
  exact ⟨ctx, rfl, rfl, primOk, _, snap3_good⟩)
noncomputable def ctxL14 : Ctx := ctxL13.snap 122 [snap4]
theorem ctxL14_ok : PrimOk ctxL14 := PrimOk.snaps (C := ctxL13) ctxL13_ok follows namesOk (by decide) (by
  intro s hs
  simp only [List.mem_cons, List.not_mem_nil, or_false] at hs
  subst hs
  exact ⟨ctx, rfl, rfl, primOk, _, snap4_good⟩)
noncomputable def ctxL1 : Ctx := ctxL14
theorem primOkL1 : PrimOk ctxL1 := ctxL14_ok
end Go.Proofs.YtabfojpbldflcaaGreatDoor
