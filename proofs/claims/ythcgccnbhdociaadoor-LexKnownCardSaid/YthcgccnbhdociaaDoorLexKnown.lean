/- LexKnown: the examples of the chapter are answered as it says; no condition. -/
import Derived.Test.YthcgccnbhdociaaDoorM8
import Derived.Test.YthcgccnbhdociaaDoorM3
import Derived.WalkKit
import Derived.ProofKit
import Derived.OpenShut
import Derived.ChangeSame
import Derived.SevenTiedAt
import Derived.Test.YthcgccnbhdociaaDoorCards
import Derived.Test.YthcgccnbhdociaaDoorTie

namespace Go.Proofs.YthcgccnbhdociaaDoor.lexKnown
open Go.ChangeShapes Go.WideShapes Go.ChangeAt Go.RowKit
set_option linter.unusedVariables false

theorem own : ownKnob Tryd.prog.godebug = none := by kernel_rfl
theorem tiled : Am.tilesB Tryd.prog = true := by kernel_rfl
theorem laidOut : laidOutB Tryd.prog = true := by kernel_rfl

set_option maxRecDepth 100000 in
theorem told (h : Am.Heap) (xs : List Am.V) (hs : Am.ShpL Tryd.prog h Tryd.f7.params.toList xs) : Am.Ctr Tryd.prog 7 xs h fun y _ => y = .bool true := by
  rw [Tryd.params7] at hs
  obtain rfl := Am.shp_none hs
  exact YthcgccnbhdociaaDoor.lexKnown h

set_option maxRecDepth 100000 in
theorem lifted (os : Os) (started : os.Started) (H : Type) (enc : TypeId × Value → H) :
    ReturnsInHanded {} Tryd.checked os 7 .any (fun w args => (Rows.lexKnownSpec.pre enc Tryd.prog Tryd.f7 [] false w args ∧ laidMetH Tryd.prog Rows.lexKnownRow.laid w) ∧ sizedMet enc Tryd.prog Tryd.f7 (OpenSpec.ofChange Rows.lexKnownSpec) false w args)
      (Rows.lexKnownSpec.post enc Tryd.prog Tryd.f7 false true false false) := by
  refine Am.returns_shaped_and (C := Tryd.checked) (X := fun w _ => laidMetH Tryd.prog Rows.lexKnownRow.laid w) (fun _ _ _ hh h => h.of_heap hh) own started (by kernel_rfl) Tryd.func7
    (ChangeSpec.witness_shaped (enc := enc) (C := Tryd.checked) (os := os) (X := fun w _ => laidMetH Tryd.prog Rows.lexKnownRow.laid w) false (World.laidAll Tryd.prog os Rows.lexKnownRow.laid) #[] 8 (World.laidAll_os _ _ _)
      (World.shaped_of_ZipB (by kernel_rfl) (by kernel_rfl)) (by kernel_rfl) (by kernel_rfl) (by kernel_rfl)
      (by rw [MakeChecks.laidMetH_plain _ _ _ (by kernel_rfl)]; exact laidMet_laidAll _ (by kernel_rfl) (by kernel_rfl))) ?_
  intro W base args ds gs before hval hW hL hsh
  rw [MakeChecks.laidMetH_plain _ _ _ (by kernel_rfl)] at hL
  refine Am.law_true (tb := 4) tiled laidOut (by kernel_rfl) rfl (by kernel_rfl) Tryd.underlying4 (fun ds hl => ?_) told (libOk_of (fun _ h => h) hL hsh) namesOk ⟨_, Tryd.func7, by kernel_rfl⟩ hval hW
  match ds, hl with
  | [], _ => rfl

theorem over : Rows.lexKnownRow.holds Tryd.pinned (OpenSpec.ofChange Rows.lexKnownSpec) :=
  OpenClaim.holds_of_wide 7 Tryd.f7 rfl rfl rfl rfl rfl rfl rfl ⟨rfl, rfl, rfl, rfl, rfl⟩ rfl rfl rfl rfl rfl (by kernel_rfl) Tryd.func7 (by kernel_rfl)
    (of_decide_eq_true (by kernel_rfl)) (by unfold Func.isWrapper; first | (rw [if_pos (by decide +kernel)]; kernel_rfl) | (rw [if_neg (by decide +kernel)]; exact ⟨rfl, rfl⟩))
    (fun os started H enc _ => lifted os started H enc)

/-- the statement -/
theorem proved : Rows.LexKnownCardSaid :=
  Claim7.holds_tied_plain_at .later [] [.data, .data, .data, .data, .sentinel, .sentinel, .pinned] true (true, "e5206237689b27bbc652d5bc4be5d192c215d6a5cb212587bdc7588b12f0f4e1") true
    over (fun _ h => by cases h) (by kernel_rfl) (fun _ h => by cases h) lexKnown_row_tie rfl ⟨rfl, rfl⟩ (by kernel_rfl) rfl
    (fun f fn hf hfn => by
      obtain rfl : f = 7 := Option.some.inj ((show Tryd.prog.funcNamed "gimlet/gimletlaw15.LexKnown" = some 7 by kernel_rfl).symm.trans hf) |>.symm
      obtain rfl : fn = Tryd.f7 := (Option.some.inj (Tryd.func7.symm.trans hfn)).symm
      exact ⟨by kernel_rfl, fun j t ht => by
        rw [Tryd.params7] at ht
        simp at ht⟩)
    (by kernel_rfl)
#print axioms proved
end Go.Proofs.YthcgccnbhdociaaDoor.lexKnown
