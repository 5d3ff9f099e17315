/- The chapter on the source: its examples are answered as it says (SourceKnown), by a verified machine that runs the closed code. No condition. -/
import Derived.Test.YtabfojpbldflcaaGreatDoorM15
import Derived.Test.YtabfojpbldflcaaGreatDoorM4
import Derived.WalkKit
import Derived.ProofKit
import Derived.OpenShut
import Derived.ChangeSame
import Derived.SevenTiedAt
import Derived.Test.YtabfojpbldflcaaGreatDoorCards
import Derived.Test.YtabfojpbldflcaaGreatDoorTie

namespace Go.Proofs.YtabfojpbldflcaaGreatDoor.sourceKnown
open Go.ChangeShapes Go.WideShapes Go.ChangeAt Go.RowKit
set_option linter.unusedVariables false

theorem own : ownKnob Tryz.prog.godebug = none := by kernel_rfl

set_option maxRecDepth 100000 in
theorem lifted (os : Os) (started : os.Started) (H : Type) (enc : TypeId × Value → H) :
    ReturnsInHanded {} Tryz.checked os 5 .any (fun w args => (Rows.sourceKnownSpec.pre enc Tryz.prog Tryz.f5 [] false w args ∧ laidMetH Tryz.prog Rows.sourceKnownRow.laid w) ∧ sizedMet enc Tryz.prog Tryz.f5 (OpenSpec.ofChange Rows.sourceKnownSpec) false w args)
      (Rows.sourceKnownSpec.post enc Tryz.prog Tryz.f5 false true false false) := by
  refine Am.returns_shaped_and (C := Tryz.checked) (X := fun w _ => laidMetH Tryz.prog Rows.sourceKnownRow.laid w) (fun _ _ _ hh h => h.of_heap hh) own started (by kernel_rfl) Tryz.func5
    (ChangeSpec.witness_shaped (enc := enc) (C := Tryz.checked) (os := os) (X := fun w _ => laidMetH Tryz.prog Rows.sourceKnownRow.laid w) false (World.laidAll Tryz.prog os Rows.sourceKnownRow.laid) #[] 8 (World.laidAll_os _ _ _)
      (World.shaped_of_ZipB (by kernel_rfl) (by kernel_rfl)) (by kernel_rfl) (by kernel_rfl) (by kernel_rfl)
      (by rw [MakeChecks.laidMetH_plain _ _ _ (by kernel_rfl)]; exact laidMet_laidAll _ (by kernel_rfl) (by kernel_rfl))) ?_
  intro W base args ds gs before hval hW hL hsh
  exact Am.closed_law (tb := 4) (by kernel_rfl) rfl (by kernel_rfl) Tryz.underlying4 rfl
    (fun w hw => Am.truly_sound (C := ctxS) follows namesOk hw primOkS (by decide) (by kernel_rfl) known_run) (libOk_of hsh) hW

theorem o1 : Tryz.pinned.checked.prog.funcNamed Rows.sourceKnownRow.func = some 5 := by kernel_rfl
theorem o2 : joinedFacts Tryz.pinned.checked.prog 5 Tryz.f5 Rows.sourceKnownSpec Rows.sourceKnownRow = true := by kernel_rfl
theorem o3 : Func.isInstance Tryz.pinned.checked.prog Tryz.f5 Rows.sourceKnownRow.origin Rows.sourceKnownRow.targs := of_decide_eq_true (by kernel_rfl)
theorem o4 : Func.isWrapper Tryz.pinned.checked.prog Tryz.f5 Rows.sourceKnownRow.wrapper Rows.sourceKnownRow.mainSum := by unfold Func.isWrapper; first | (rw [if_pos (by decide +kernel)]; kernel_rfl) | (rw [if_neg (by decide +kernel)]; exact ⟨rfl, rfl⟩)
theorem over : Rows.sourceKnownRow.holds Tryz.pinned (OpenSpec.ofChange Rows.sourceKnownSpec) :=
  OpenClaim.holds_of_wide 5 Tryz.f5 rfl rfl rfl rfl rfl rfl rfl ⟨rfl, rfl, rfl, rfl, rfl⟩ rfl rfl rfl rfl rfl o1 Tryz.func5 o2 o3 o4
    (fun os started H enc _ => lifted os started H enc)

/-- the statement -/
theorem proved : Rows.SourceKnownCardSaid :=
  Claim7.holds_tied_plain_at .later [] [.data, .data, .data, .data, .sentinel, .sentinel, .pinned] true (true, "655ed9c49cae6b9bc29426c4923b4390a369d7d8db7f74516b6296a905b84c17") true
    over (fun _ h => by cases h) (by kernel_rfl) (fun _ h => by cases h) sourceKnown_row_tie rfl ⟨rfl, rfl⟩ (by kernel_rfl) rfl
    (fun f fn hf hfn => by
      obtain rfl : f = 5 := Option.some.inj ((show Tryz.prog.funcNamed "gimlet/gimletlaw22.SourceKnown" = some 5 by kernel_rfl).symm.trans hf) |>.symm
      obtain rfl : fn = Tryz.f5 := (Option.some.inj (Tryz.func5.symm.trans hfn)).symm
      exact ⟨by kernel_rfl, fun j t ht => by
        rw [Tryz.params5] at ht
        simp at ht⟩)
    (by kernel_rfl)
#print axioms proved
end Go.Proofs.YtabfojpbldflcaaGreatDoor.sourceKnown
