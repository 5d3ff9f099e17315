/- LexWrites: of any words, or at most 200 of at most 200 bytes, lex.Write and the document say alike what text they have; no condition. -/
import Derived.Test.YthcgccnbhdociaaDoorM9
import Derived.Test.YthcgccnbhdociaaDoorM3
import Derived.WalkKit
import Derived.ProofKit
import Derived.OpenShut
import Derived.ChangeSame
import Derived.SevenTiedAt
import Derived.Test.YthcgccnbhdociaaDoorCards
import Derived.Test.YthcgccnbhdociaaDoorTie

namespace Go.Proofs.YthcgccnbhdociaaDoor.lexWrites
open Go.ChangeShapes Go.WideShapes Go.ChangeAt Go.RowKit
set_option linter.unusedVariables false

theorem own : ownKnob Tryd.prog.godebug = none := by kernel_rfl
theorem tiled : Am.tilesB Tryd.prog = true := by kernel_rfl
theorem laidOut : laidOutB Tryd.prog = true := by kernel_rfl

set_option maxRecDepth 100000 in
theorem told (h : Am.Heap) (xs : List Am.V) (hs : Am.ShpL Tryd.prog h Tryd.f6.params.toList xs) : Am.Ctr Tryd.prog 6 xs h fun y _ => y = .bool true := by
  rw [Tryd.params6] at hs
  obtain ⟨a, n, rfl, h0⟩ := Am.shp_one hs
  obtain ⟨ws0, k0, l0, _⟩ := YthcgccnbhdociaaDoor.open_words h0
  exact YthcgccnbhdociaaDoor.lexWrites _ ws0 h k0 l0

set_option maxRecDepth 100000 in
theorem lifted (os : Os) (started : os.Started) (H : Type) (enc : TypeId × Value → H) :
    ReturnsInHanded {} Tryd.checked os 6 .any (fun w args => (Rows.lexWritesSpec.pre enc Tryd.prog Tryd.f6 [] false w args ∧ laidMetH Tryd.prog Rows.lexWritesRow.laid w) ∧ sizedMet enc Tryd.prog Tryd.f6 (OpenSpec.ofChange Rows.lexWritesSpec) false w args)
      (Rows.lexWritesSpec.post enc Tryd.prog Tryd.f6 false true false false) := by
  refine Am.returns_shaped_and (C := Tryd.checked) (X := fun w _ => laidMetH Tryd.prog Rows.lexWritesRow.laid w) (fun _ _ _ hh h => h.of_heap hh) own started (by kernel_rfl) Tryd.func6
    (ChangeSpec.witness_shaped (enc := enc) (C := Tryd.checked) (os := os) (X := fun w _ => laidMetH Tryd.prog Rows.lexWritesRow.laid w) false (World.laidAll Tryd.prog os Rows.lexWritesRow.laid) #[.slice none 0 0] 8 (World.laidAll_os _ _ _)
      (World.shaped_of_ZipB (by kernel_rfl) (by kernel_rfl)) (by kernel_rfl) (by kernel_rfl) (by kernel_rfl)
      (by rw [MakeChecks.laidMetH_plain _ _ _ (by kernel_rfl)]; exact laidMet_laidAll _ (by kernel_rfl) (by kernel_rfl))) ?_
  intro W base args ds gs before hval hW hL hsh
  rw [MakeChecks.laidMetH_plain _ _ _ (by kernel_rfl)] at hL
  refine Am.law_true (tb := 4) tiled laidOut (by kernel_rfl) rfl (by kernel_rfl) Tryd.underlying4 (fun ds hl => ?_) told (libOk_of (fun _ h => h) hL hsh) namesOk ⟨_, Tryd.func6, by kernel_rfl⟩ hval hW
  match ds, hl with
  | [d1], _ => rfl

theorem over : Rows.lexWritesRow.holds Tryd.pinned (OpenSpec.ofChange Rows.lexWritesSpec) :=
  OpenClaim.holds_of_wide 6 Tryd.f6 rfl rfl rfl rfl rfl rfl rfl ⟨rfl, rfl, rfl, rfl, rfl⟩ rfl rfl rfl rfl rfl (by kernel_rfl) Tryd.func6 (by kernel_rfl)
    (of_decide_eq_true (by kernel_rfl)) (by unfold Func.isWrapper; first | (rw [if_pos (by decide +kernel)]; kernel_rfl) | (rw [if_neg (by decide +kernel)]; exact ⟨rfl, rfl⟩))
    (fun os started H enc _ => lifted os started H enc)

/-- the statement -/
theorem proved : Rows.LexWritesCardSaid :=
  Claim7.holds_tied_plain_at .later [] [.data, .data, .data, .data, .sentinel, .sentinel, .pinned] true (true, "e5206237689b27bbc652d5bc4be5d192c215d6a5cb212587bdc7588b12f0f4e1") true
    over (fun _ h => by cases h) (by kernel_rfl) (fun _ h => by cases h) lexWrites_row_tie rfl ⟨rfl, rfl⟩ (by kernel_rfl) rfl
    (fun f fn hf hfn => by
      obtain rfl : f = 6 := Option.some.inj ((show Tryd.prog.funcNamed "gimlet/gimletlaw15.LexWrites" = some 6 by kernel_rfl).symm.trans hf) |>.symm
      obtain rfl : fn = Tryd.f6 := (Option.some.inj (Tryd.func6.symm.trans hfn)).symm
      exact ⟨by kernel_rfl, fun j t ht => by
        rw [Tryd.params6] at ht
        have hm : t ∈ [23] := by simpa using Array.mem_of_getElem? ht
        have hall : ([23].all fun u => !Tryd.prog.wantsStandIn u) = true := by kernel_rfl
        exact (show Tryd.prog.wantsStandIn t = false by simpa using List.all_eq_true.1 hall t hm)⟩)
    (by kernel_rfl)
#print axioms proved
end Go.Proofs.YthcgccnbhdociaaDoor.lexWrites
