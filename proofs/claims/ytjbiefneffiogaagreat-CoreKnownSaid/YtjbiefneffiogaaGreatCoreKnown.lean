/- CoreKnown: the examples of the chapter core are answered as it says; no condition. -/
import Derived.Test.YtjbiefneffiogaaGreatM4
import Derived.WalkKit
import Derived.ProofKit
import Derived.OpenShut
import Derived.ChangeSame

namespace Go.Proofs.YtjbiefneffiogaaGreat.coreKnown
open Go.ChangeShapes Go.WideShapes Go.ChangeAt Go.RowKit
set_option linter.unusedVariables false

theorem own : ownKnob Tryz.prog.godebug = none := by kernel_rfl
theorem tiled : Am.tilesB Tryz.prog = true := by kernel_rfl
theorem laidOut : laidOutB Tryz.prog = true := by kernel_rfl
theorem walk (h : Am.Heap) : Am.CallsV Tryz.prog 7 [] h (.bool true) h :=
  Am.closed_callsV (fun E x e => by simp only [Am.Rel]; exact e) ⟨_, Tryz.func7, by kernel_rfl⟩ (fun w hw => Am.truly_sound (C := ctx) follows namesOk hw primOk known_run) h
theorem told (h : Am.Heap) (xs : List Am.V) (hs : Am.ShpL Tryz.prog h Tryz.f7.params.toList xs) : Am.Ctr Tryz.prog 7 xs h fun y _ => y = .bool true := by
  rw [Tryz.params7] at hs
  obtain rfl := Am.shp_none hs
  exact ⟨_, _, walk h, rfl⟩

/-! ### THE ROW's STEP: WRITTEN OUT: LEAVE IT -/
set_option maxRecDepth 100000 in
theorem lifted (os : Os) (started : os.Started) (H : Type) (enc : TypeId × Value → H) :
    ReturnsInHanded {} Tryz.checked os 7 .any (Rows.coreKnownSpec.pre6 enc Tryz.prog Tryz.f7 Rows.coreKnownRow.domain false) (Rows.coreKnownSpec.post enc Tryz.prog Tryz.f7 false true false false) := by
  refine returnsInHanded_of_change (C := Tryz.checked) own started (by kernel_rfl) Tryz.func7
    (ChangeSpec.witness6 (enc := enc) (C := Tryz.checked) false ⟨#[], #[], []⟩ 8 (by kernel_rfl) (by kernel_rfl) (by kernel_rfl) (by kernel_rfl)) ?_
  intro W base args ds gs before hval hW hcnd _
  refine Am.law_true (tb := 4) tiled laidOut (by kernel_rfl) rfl (by kernel_rfl) Tryz.underlying4 (fun ds hl => ?_) told trivial namesOk ⟨_, Tryz.func7, by kernel_rfl⟩ hval hW
  match ds, hl with
  | [], _ => rfl

theorem over : Rows.coreKnownRow.holds Tryz.pinned (OpenSpec.ofChange Rows.coreKnownSpec) :=
  OpenClaim.holds_of_wide 7 Tryz.f7 rfl rfl rfl rfl rfl rfl rfl ⟨rfl, rfl, rfl, rfl, rfl⟩ rfl rfl rfl rfl rfl (by kernel_rfl) Tryz.func7 (by kernel_rfl)
    (of_decide_eq_true (by kernel_rfl)) (by unfold Func.isWrapper; first | (rw [if_pos (by decide +kernel)]; kernel_rfl) | (rw [if_neg (by decide +kernel)]; exact ⟨rfl, rfl⟩))
    (fun os started H enc _ => lifted os started H enc)

/-- the statement -/
theorem proved : Rows.CoreKnownSaid :=
  over
#print axioms proved
end Go.Proofs.YtjbiefneffiogaaGreat.coreKnown
