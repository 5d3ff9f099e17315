/- A list that is entered, in which just what it tells is left, is left with that on what stood ahead; whatever more, or less, is refused, but in what is dead nothing is missing (StackLists): for every stand and all numbers; no condition; proved by walks on an abstract machine that is shown sound for the model. -/
import Derived.Test.YtkjifhoiiciblaaM9
import Derived.Test.YtkjifhoiiciblaaM10
import Derived.WalkKit
import Derived.ProofKit
import Derived.OpenShut
import Derived.ChangeSame

namespace Go.Proofs.Ytkjifhoiiciblaa.stackLists
open Go.ChangeShapes Go.WideShapes Go.ChangeAt Go.RowKit
set_option linter.unusedVariables false

theorem own : ownKnob Try.prog.godebug = none := by kernel_rfl

theorem told (h : Am.Heap) (xs : List Am.V) (hs : Am.ShpL Try.prog h Try.f5.params.toList xs) : Am.Ctr Try.prog 5 xs h fun y _ => y = .bool true := by
  rw [Try.params5] at hs
  match xs, hs with
  | [a, b, c, d, e], ⟨⟨_, h0⟩, ⟨_, h1⟩, ⟨_, h2⟩, ⟨_, h3⟩, ⟨_, h4⟩, _⟩ =>
    obtain ⟨ht, v, len, hs⟩ := open_stand h0
    obtain ⟨op, rfl, _⟩ := open_int3 h1
    obtain ⟨res, rfl, _⟩ := open_int3 h2
    obtain ⟨n, rfl, _⟩ := open_int3 h3
    obtain ⟨dead, rfl⟩ := open_bool4 h4
    exact stackLists op res n dead a ht v len h hs trivial

set_option maxRecDepth 100000 in
theorem lifted (os : Os) (started : os.Started) (H : Type) (enc : TypeId × Value → H) :
    ReturnsInHanded {} Try.checked os 5 .any (Rows.stackListsSpec.pre6 enc Try.prog Try.f5 Rows.stackListsRow.domain false) (Rows.stackListsSpec.post enc Try.prog Try.f5 false true false false) := by
  refine returnsInHanded_of_change (C := Try.checked) own started (by kernel_rfl) Try.func5
    (ChangeSpec.witness6 (enc := enc) (C := Try.checked) false ⟨#[], #[.agg #[.int .i64 0, .slice none 0 0], .int .i64 0, .int .i64 0, .int .i64 0, .bool false], []⟩ 8 (by kernel_rfl) (by kernel_rfl) (by kernel_rfl) (by kernel_rfl)) ?_
  intro W base args ds gs before hval hW hcnd _
  refine Am.law_true (tb := 4) tiled laidOut (by kernel_rfl) rfl (by kernel_rfl) Try.underlying4 (fun ds hl => ?_) told hval hW
  match ds, hl with
  | [d1, d2, d3, d4, d5], _ => rfl

theorem over : Rows.stackListsRow.holds Try.pinned (OpenSpec.ofChange Rows.stackListsSpec) :=
  OpenClaim.holds_of_wide 5 Try.f5 rfl rfl rfl rfl rfl rfl rfl ⟨rfl, rfl, rfl, rfl, rfl⟩ rfl rfl rfl rfl rfl (by kernel_rfl) Try.func5 (by kernel_rfl)
    (of_decide_eq_true (by kernel_rfl)) (by unfold Func.isWrapper; first | (rw [if_pos (by decide +kernel)]; kernel_rfl) | (rw [if_neg (by decide +kernel)]; exact ⟨rfl, rfl⟩))
    (fun os started H enc _ => lifted os started H enc)

/-- the statement -/
theorem proved : Rows.StackListsSaid :=
  over
#print axioms proved
end Go.Proofs.Ytkjifhoiiciblaa.stackLists
