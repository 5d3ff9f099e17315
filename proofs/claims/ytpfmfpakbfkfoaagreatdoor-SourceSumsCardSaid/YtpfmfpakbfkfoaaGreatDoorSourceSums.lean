/- SourceSums: of any two numbers, arithmetic is as it should be. -/
import Derived.Test.YtpfmfpakbfkfoaaGreatDoorM21
import Derived.WalkKit
import Derived.ProofKit
import Derived.OpenShut
import Derived.ChangeSame
import Derived.SevenTiedAt
import Derived.Test.YtpfmfpakbfkfoaaGreatDoorCards
import Derived.Test.YtpfmfpakbfkfoaaGreatDoorTie
set_option linter.unusedSectionVars false
set_option linter.unusedSimpArgs false
set_option linter.unusedVariables false

namespace Go.Proofs.YtpfmfpakbfkfoaaGreatDoor.sourceSums
open Go.ChangeShapes Go.WideShapes Go.ChangeAt Go.RowKit
set_option linter.unusedVariables false

theorem own : ownKnob Tryz.prog.godebug = none := by kernel_rfl

set_option maxRecDepth 100000 in
theorem lifted (os : Os) (started : os.Started) (H : Type) (enc : TypeId × Value → H) :
    ReturnsInHanded {} Tryz.checked os 3 .any (fun w args => (Rows.sourceSumsSpec.pre enc Tryz.prog Tryz.f3 [] false w args ∧ laidMetH Tryz.prog Rows.sourceSumsRow.laid w) ∧ sizedMet enc Tryz.prog Tryz.f3 (OpenSpec.ofChange Rows.sourceSumsSpec) false w args)
      (Rows.sourceSumsSpec.post enc Tryz.prog Tryz.f3 false true false false) := by
  letI : Am.Lay := lay0
  refine Am.returns_shaped_and (C := Tryz.checked) (X := fun w _ => laidMetH Tryz.prog Rows.sourceSumsRow.laid w) (fun _ _ _ hh h => h.of_heap hh) own started (by kernel_rfl) Tryz.func3
    (ChangeSpec.witness_shaped (enc := enc) (C := Tryz.checked) (os := os) (X := fun w _ => laidMetH Tryz.prog Rows.sourceSumsRow.laid w) false (World.laidAll Tryz.prog os Rows.sourceSumsRow.laid) #[.int .i64 0, .int .i64 0, .int .i64 0] 8 (World.laidAll_os _ _ _)
      (World.shaped_of_ZipB (by kernel_rfl) (by kernel_rfl)) (by kernel_rfl) (by kernel_rfl) (by kernel_rfl)
      (by rw [MakeChecks.laidMetH_plain _ _ _ (by kernel_rfl)]; exact laidMet_laidAll _ (by kernel_rfl) (by kernel_rfl))) ?_
  intro W base args ds gs before hval hW hL hsh
  refine Am.ints_law (t := 3) (tb := 4) (by kernel_rfl) Tryz.underlying3 rfl (by kernel_rfl) Tryz.underlying4 (fun ds hl => ?_) (fun x a b _ _ _ => sums_calls (libOk_of hsh) x a b) hval hW
  match ds, hl with
  | [d1, d2, d3], _ => rfl

theorem o1 : Tryz.pinned.checked.prog.funcNamed Rows.sourceSumsRow.func = some 3 := by kernel_rfl
theorem o2 : joinedFacts Tryz.pinned.checked.prog 3 Tryz.f3 Rows.sourceSumsSpec Rows.sourceSumsRow = true := by kernel_rfl
theorem o3 : Func.isInstance Tryz.pinned.checked.prog Tryz.f3 Rows.sourceSumsRow.origin Rows.sourceSumsRow.targs := of_decide_eq_true (by kernel_rfl)
theorem o4 : Func.isWrapper Tryz.pinned.checked.prog Tryz.f3 Rows.sourceSumsRow.wrapper Rows.sourceSumsRow.mainSum := by unfold Func.isWrapper; first | (rw [if_pos (by decide +kernel)]; kernel_rfl) | (rw [if_neg (by decide +kernel)]; exact ⟨rfl, rfl⟩)
theorem over : Rows.sourceSumsRow.holds Tryz.pinned (OpenSpec.ofChange Rows.sourceSumsSpec) :=
  OpenClaim.holds_of_wide 3 Tryz.f3 rfl rfl rfl rfl rfl rfl rfl ⟨rfl, rfl, rfl, rfl, rfl⟩ rfl rfl rfl rfl rfl o1 Tryz.func3 o2 o3 o4
    (fun os started H enc _ => lifted os started H enc)

/-- the statement -/
theorem proved : Rows.SourceSumsCardSaid :=
  Claim7.holds_tied_plain_at .later [] [.data, .data, .data, .data, .sentinel, .sentinel, .pinned] true (true, "a091ccbdbeddd8d5fc5130531e5ad602e8c770eaa26c5d459a417c936026a2d3") true
    over (fun _ h => by cases h) (by kernel_rfl) (fun _ h => by cases h) sourceSums_row_tie rfl ⟨rfl, rfl⟩ (by kernel_rfl) rfl
    (fun f fn hf hfn => by
      obtain rfl : f = 3 := Option.some.inj ((show Tryz.prog.funcNamed "gimlet/gimletlaw22.SourceSums" = some 3 by kernel_rfl).symm.trans hf) |>.symm
      obtain rfl : fn = Tryz.f3 := (Option.some.inj (Tryz.func3.symm.trans hfn)).symm
      exact ⟨by kernel_rfl, fun j t ht => by
        rw [Tryz.params3] at ht
        have hm : t ∈ [3, 3, 3] := by simpa using Array.mem_of_getElem? ht
        have hall : ([3, 3, 3].all fun u => !Tryz.prog.wantsStandIn u) = true := by kernel_rfl
        exact (show Tryz.prog.wantsStandIn t = false by simpa using List.all_eq_true.1 hall t hm)⟩)
    (by kernel_rfl)
#print axioms proved
end Go.Proofs.YtpfmfpakbfkfoaaGreatDoor.sourceSums
