/- The chapter's examples are answered as it says: the law TypesKnown returns true; no condition. -/
import Derived.Test.YthemdhlheglhoaaGreatDoorM6
import Derived.Test.YthemdhlheglhoaaGreatDoorM4
import Derived.WalkKit
import Derived.ProofKit
import Derived.OpenShut
import Derived.ChangeSame
import Derived.SevenTiedAt
import Derived.Test.YthemdhlheglhoaaGreatDoorCards
import Derived.Test.YthemdhlheglhoaaGreatDoorTie

namespace Go.Proofs.YthemdhlheglhoaaGreatDoor.typesKnown
open Go.ChangeShapes Go.WideShapes Go.ChangeAt Go.RowKit
set_option linter.unusedVariables false

theorem own : ownKnob Tryz.prog.godebug = none := by kernel_rfl

set_option maxRecDepth 100000 in
theorem lifted (os : Os) (started : os.Started) (H : Type) (enc : TypeId × Value → H) :
    ReturnsInHanded {} Tryz.checked os 8 .any (fun w args => (Rows.typesKnownSpec.pre enc Tryz.prog Tryz.f8 [] false w args ∧ laidMetH Tryz.prog Rows.typesKnownRow.laid w) ∧ sizedMet enc Tryz.prog Tryz.f8 (OpenSpec.ofChange Rows.typesKnownSpec) false w args)
      (Rows.typesKnownSpec.post enc Tryz.prog Tryz.f8 false true false false) := by
  refine Am.returns_shaped_and (C := Tryz.checked) (X := fun w _ => laidMetH Tryz.prog Rows.typesKnownRow.laid w) (fun _ _ _ hh h => h.of_heap hh) own started (by kernel_rfl) Tryz.func8
    (ChangeSpec.witness_shaped (enc := enc) (C := Tryz.checked) (os := os) (X := fun w _ => laidMetH Tryz.prog Rows.typesKnownRow.laid w) false (World.laidAll Tryz.prog os Rows.typesKnownRow.laid) #[] 8 (World.laidAll_os _ _ _)
      (World.shaped_of_ZipB (by kernel_rfl) (by kernel_rfl)) (by kernel_rfl) (by kernel_rfl) (by kernel_rfl)
      (by rw [MakeChecks.laidMetH_plain _ _ _ (by kernel_rfl)]; exact laidMet_laidAll _ (by kernel_rfl) (by kernel_rfl))) ?_
  intro W base args ds gs before hval hW hL hsh
  exact Am.closed_law (tb := 4) (by kernel_rfl) rfl (by kernel_rfl) Tryz.underlying4 rfl
    (fun w hw => Am.truly_sound (C := ctx) follows namesOk hw primOk (by decide) (by kernel_rfl) known_run) (libOk_of hsh) hW

theorem over : Rows.typesKnownRow.holds Tryz.pinned (OpenSpec.ofChange Rows.typesKnownSpec) :=
  OpenClaim.holds_of_wide 8 Tryz.f8 rfl rfl rfl rfl rfl rfl rfl ⟨rfl, rfl, rfl, rfl, rfl⟩ rfl rfl rfl rfl rfl (by kernel_rfl) Tryz.func8 (by kernel_rfl)
    (of_decide_eq_true (by kernel_rfl)) (by unfold Func.isWrapper; first | (rw [if_pos (by decide +kernel)]; kernel_rfl) | (rw [if_neg (by decide +kernel)]; exact ⟨rfl, rfl⟩))
    (fun os started H enc _ => lifted os started H enc)

/-- the statement -/
theorem proved : Rows.TypesKnownCardSaid :=
  Claim7.holds_tied_plain_at .later [] [.data, .data, .data, .data, .sentinel, .sentinel, .pinned] true (true, "fd282c945bc828b13af569b0c305e3ea8f7e6da945325eb930921411db30dfc6") true
    over (fun _ h => by cases h) (by kernel_rfl) (fun _ h => by cases h) typesKnown_row_tie rfl ⟨rfl, rfl⟩ (by kernel_rfl) rfl
    (fun f fn hf hfn => by
      obtain rfl : f = 8 := Option.some.inj ((show Tryz.prog.funcNamed "gimlet/gimletlaw19.TypesKnown" = some 8 by kernel_rfl).symm.trans hf) |>.symm
      obtain rfl : fn = Tryz.f8 := (Option.some.inj (Tryz.func8.symm.trans hfn)).symm
      exact ⟨by kernel_rfl, fun j t ht => by
        rw [Tryz.params8] at ht
        simp at ht⟩)
    (by kernel_rfl)
#print axioms proved
end Go.Proofs.YthemdhlheglhoaaGreatDoor.typesKnown
