/-
  DERIVED. GIVEN WITH THE SEED: THE CARDS: each row of YtpfmfpakbfkfoaaGreatDoorRows.lean that lists a variable, with what it lists TIED to the program's text (the seventh form; the later family's looks); each row that meets fmt, with fmt's text TOLD by the authors' own Lean function (tested against real Go, not proved from fmt's source: count such statements apart). THE CARD IS WHAT COUNTS. Prove the row's statement (the work); the ties are given (YtpfmfpakbfkfoaaGreatDoorTie.lean); close each card by the builder's one call (the guide's Derived/Test/ToyasCard.lean, 'card_holds'). Laid BY PROGRAM, IN A SANDBOX (cutbox-door.mjs). By AI agents, Wed Nov 11 2026. No macro, syntax, notation, axiom, sorry.
-/
import Derived.Test.YtpfmfpakbfkfoaaGreatDoorRows
import GoSem.ClaimSeven
namespace Go.Proofs.YtpfmfpakbfkfoaaGreatDoor
namespace Rows

/-- THE TIED CARD OF 'gimletlaw22.SourceSums'. -/
def sourceSumsCard : Claim7 := { stood := { row := sourceSumsRow, standIns := [], harness := (true, "a091ccbdbeddd8d5fc5130531e5ad602e8c770eaa26c5d459a417c936026a2d3"), looks := true }, kinds := [], alts := [], laidByText := true, laidKinds := [.data, .data, .data, .data, .sentinel, .sentinel, .pinned], laidTests := true, laidLooks := .later }
def SourceSumsCardSaid : Prop := Claim7.holds Tryz.pinned (.plain (OpenSpec.ofChange sourceSumsSpec)) sourceSumsCard

/-- THE SECOND FORM's CARD OF 'gimletlaw22.SourceSums'. -/
def sourceSumsUptoCard : Claim7 := { stood := { row := sourceSumsUptoRow, standIns := [], harness := (true, "a091ccbdbeddd8d5fc5130531e5ad602e8c770eaa26c5d459a417c936026a2d3"), looks := true }, kinds := [], alts := [], laidByText := true, laidKinds := [.data, .data, .data, .data, .sentinel, .sentinel, .pinned], laidTests := true, laidLooks := .later }
def SourceSumsUptoCardSaid : Prop := Claim7.holds Tryz.pinned (.plain (OpenSpec.upto sourceSumsSpec)) sourceSumsUptoCard
end Rows
end Go.Proofs.YtpfmfpakbfkfoaaGreatDoor
