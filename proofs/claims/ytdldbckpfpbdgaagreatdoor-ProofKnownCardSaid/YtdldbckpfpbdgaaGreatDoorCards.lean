/-
  DERIVED. GIVEN WITH THE SEED: THE CARDS: each row of YtdldbckpfpbdgaaGreatDoorRows.lean that lists a variable, with what it lists TIED to the program's text (the seventh form; the later family's looks); each row that meets fmt, with fmt's text TOLD by the authors' own Lean function (tested against real Go, not proved from fmt's source: count such statements apart). THE CARD IS WHAT COUNTS. Prove the row's statement (the work); the ties are given (YtdldbckpfpbdgaaGreatDoorTie.lean); close each card by the builder's one call (the guide's Derived/Test/ToyasCard.lean, 'card_holds'). Laid BY PROGRAM, IN A SANDBOX (cutbox-door.mjs). By AI agents, Wed Nov 11 2026. No macro, syntax, notation, axiom, sorry.
-/
import Derived.Test.YtdldbckpfpbdgaaGreatDoorRows
import GoSem.ClaimSeven
namespace Go.Proofs.YtdldbckpfpbdgaaGreatDoor
namespace Rows

/-- THE TIED CARD OF 'gimletlaw21.ProofKnown'. -/
def proofKnownCard : Claim7 := { stood := { row := proofKnownRow, standIns := [], harness := (true, "373e96ddc9fb8312110fdb11e7bfa04613d3f460634257b211d5551e4e88dbfa"), looks := true }, kinds := [], alts := [], laidByText := true, laidKinds := [.data, .data, .data, .data, .sentinel, .sentinel, .pinned], laidTests := true, laidLooks := .later }
def ProofKnownCardSaid : Prop := Claim7.holds Tryz.pinned (.plain (OpenSpec.ofChange proofKnownSpec)) proofKnownCard

/-- THE TIED CARD OF 'gimletlaw21.ProofMost'. -/
def proofMostCard : Claim7 := { stood := { row := proofMostRow, standIns := [], harness := (true, "373e96ddc9fb8312110fdb11e7bfa04613d3f460634257b211d5551e4e88dbfa"), looks := true }, kinds := [], alts := [], laidByText := true, laidKinds := [.data, .data, .data, .data, .sentinel, .sentinel, .pinned], laidTests := true, laidLooks := .later }
def ProofMostCardSaid : Prop := Claim7.holds Tryz.pinned (.plain (OpenSpec.ofChange proofMostSpec)) proofMostCard

/-- THE TIED CARD OF 'gimletlaw21.ProofSpecial'. -/
def proofSpecialCard : Claim7 := { stood := { row := proofSpecialRow, standIns := [], harness := (true, "373e96ddc9fb8312110fdb11e7bfa04613d3f460634257b211d5551e4e88dbfa"), looks := true }, kinds := [], alts := [], laidByText := true, laidKinds := [.data, .data, .data, .data, .sentinel, .sentinel, .pinned], laidTests := true, laidLooks := .later }
def ProofSpecialCardSaid : Prop := Claim7.holds Tryz.pinned (.plain (OpenSpec.ofChange proofSpecialSpec)) proofSpecialCard

/-- THE SECOND FORM's CARD OF 'gimletlaw21.ProofKnown'. -/
def proofKnownUptoCard : Claim7 := { stood := { row := proofKnownUptoRow, standIns := [], harness := (true, "373e96ddc9fb8312110fdb11e7bfa04613d3f460634257b211d5551e4e88dbfa"), looks := true }, kinds := [], alts := [], laidByText := true, laidKinds := [.data, .data, .data, .data, .sentinel, .sentinel, .pinned], laidTests := true, laidLooks := .later }
def ProofKnownUptoCardSaid : Prop := Claim7.holds Tryz.pinned (.plain (OpenSpec.upto proofKnownSpec)) proofKnownUptoCard

/-- THE SECOND FORM's CARD OF 'gimletlaw21.ProofMost'. -/
def proofMostUptoCard : Claim7 := { stood := { row := proofMostUptoRow, standIns := [], harness := (true, "373e96ddc9fb8312110fdb11e7bfa04613d3f460634257b211d5551e4e88dbfa"), looks := true }, kinds := [], alts := [], laidByText := true, laidKinds := [.data, .data, .data, .data, .sentinel, .sentinel, .pinned], laidTests := true, laidLooks := .later }
def ProofMostUptoCardSaid : Prop := Claim7.holds Tryz.pinned (.plain (OpenSpec.upto proofMostSpec)) proofMostUptoCard

/-- THE SECOND FORM's CARD OF 'gimletlaw21.ProofSpecial'. -/
def proofSpecialUptoCard : Claim7 := { stood := { row := proofSpecialUptoRow, standIns := [], harness := (true, "373e96ddc9fb8312110fdb11e7bfa04613d3f460634257b211d5551e4e88dbfa"), looks := true }, kinds := [], alts := [], laidByText := true, laidKinds := [.data, .data, .data, .data, .sentinel, .sentinel, .pinned], laidTests := true, laidLooks := .later }
def ProofSpecialUptoCardSaid : Prop := Claim7.holds Tryz.pinned (.plain (OpenSpec.upto proofSpecialSpec)) proofSpecialUptoCard
end Rows
end Go.Proofs.YtdldbckpfpbdgaaGreatDoor
