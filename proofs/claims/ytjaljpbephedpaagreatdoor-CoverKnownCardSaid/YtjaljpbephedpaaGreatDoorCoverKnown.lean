/- The chapter on patterns that leave something out: its examples are answered as it says (CoverKnown), by a verified machine that runs the closed code. No condition. -/
import Derived.Test.YtjaljpbephedpaaGreatDoorM13
import Derived.Test.YtjaljpbephedpaaGreatDoorM4
import Derived.WalkKit
import Derived.ProofKit
import Derived.OpenShut
import Derived.ChangeSame
import Derived.SevenTiedAt
import Derived.Test.YtjaljpbephedpaaGreatDoorCards
import Derived.Test.YtjaljpbephedpaaGreatDoorTie

namespace Go.Proofs.YtjaljpbephedpaaGreatDoor.coverKnown
open Go.ChangeShapes Go.WideShapes Go.ChangeAt Go.RowKit
set_option linter.unusedVariables false

theorem own : ownKnob Tryz.prog.godebug = none := by kernel_rfl

set_option maxRecDepth 100000 in
theorem lifted (os : Os) (started : os.Started) (H : Type) (enc : TypeId × Value → H) :
    ReturnsInHanded {} Tryz.checked os 3 .any (fun w args => (Rows.coverKnownSpec.pre enc Tryz.prog Tryz.f3 [] false w args ∧ laidMetH Tryz.prog Rows.coverKnownRow.laid w) ∧ sizedMet enc Tryz.prog Tryz.f3 (OpenSpec.ofChange Rows.coverKnownSpec) false w args)
      (Rows.coverKnownSpec.post enc Tryz.prog Tryz.f3 false true false false) := by
  refine Am.returns_shaped_and (C := Tryz.checked) (X := fun w _ => laidMetH Tryz.prog Rows.coverKnownRow.laid w) (fun _ _ _ hh h => h.of_heap hh) own started (by kernel_rfl) Tryz.func3
    (ChangeSpec.witness_shaped (enc := enc) (C := Tryz.checked) (os := os) (X := fun w _ => laidMetH Tryz.prog Rows.coverKnownRow.laid w) false (World.laidAll Tryz.prog os Rows.coverKnownRow.laid) #[] 8 (World.laidAll_os _ _ _)
      (World.shaped_of_ZipB (by kernel_rfl) (by kernel_rfl)) (by kernel_rfl) (by kernel_rfl) (by kernel_rfl)
      (by rw [MakeChecks.laidMetH_plain _ _ _ (by kernel_rfl)]; exact laidMet_laidAll _ (by kernel_rfl) (by kernel_rfl))) ?_
  intro W base args ds gs before hval hW hL hsh
  exact Am.closed_law (tb := 4) (by kernel_rfl) rfl (by kernel_rfl) Tryz.underlying4 rfl
    (fun w hw => Am.truly_sound (C := ctxS) follows namesOk hw primOkS (by decide) (by kernel_rfl) known_run) (libOk_of hsh) hW

theorem o1 : Tryz.pinned.checked.prog.funcNamed Rows.coverKnownRow.func = some 3 := by kernel_rfl
theorem o2 : joinedFacts Tryz.pinned.checked.prog 3 Tryz.f3 Rows.coverKnownSpec Rows.coverKnownRow = true := by kernel_rfl
theorem o3 : Func.isInstance Tryz.pinned.checked.prog Tryz.f3 Rows.coverKnownRow.origin Rows.coverKnownRow.targs := of_decide_eq_true (by kernel_rfl)
theorem o4 : Func.isWrapper Tryz.pinned.checked.prog Tryz.f3 Rows.coverKnownRow.wrapper Rows.coverKnownRow.mainSum := by unfold Func.isWrapper; first | (rw [if_pos (by decide +kernel)]; kernel_rfl) | (rw [if_neg (by decide +kernel)]; exact ⟨rfl, rfl⟩)
theorem over : Rows.coverKnownRow.holds Tryz.pinned (OpenSpec.ofChange Rows.coverKnownSpec) :=
  OpenClaim.holds_of_wide 3 Tryz.f3 rfl rfl rfl rfl rfl rfl rfl ⟨rfl, rfl, rfl, rfl, rfl⟩ rfl rfl rfl rfl rfl o1 Tryz.func3 o2 o3 o4
    (fun os started H enc _ => lifted os started H enc)

/-- the statement -/
theorem proved : Rows.CoverKnownCardSaid :=
  Claim7.holds_tied_plain_at .later [] [.data, .data, .data, .data, .sentinel, .sentinel, .pinned] true (true, "3e13b49da69e33b55264e8619e3ce7cd1eeeca00d3f277a7c8da775e285dcf2d") true
    over (fun _ h => by cases h) (by kernel_rfl) (fun _ h => by cases h) coverKnown_row_tie rfl ⟨rfl, rfl⟩ (by kernel_rfl) rfl
    (fun f fn hf hfn => by
      obtain rfl : f = 3 := Option.some.inj ((show Tryz.prog.funcNamed "gimlet/gimletlaw23.CoverKnown" = some 3 by kernel_rfl).symm.trans hf) |>.symm
      obtain rfl : fn = Tryz.f3 := (Option.some.inj (Tryz.func3.symm.trans hfn)).symm
      exact ⟨by kernel_rfl, fun j t ht => by
        rw [Tryz.params3] at ht
        simp at ht⟩)
    (by kernel_rfl)
#print axioms proved
end Go.Proofs.YtjaljpbephedpaaGreatDoor.coverKnown
