/-
  DERIVED. GIVEN WITH THE SEED: THE CARDS: each row of YthcgdbgkofflnaaGreatDoorRows.lean that lists a variable, with what it lists TIED to the program's text (the seventh form; the later family's looks); each row that meets fmt, with fmt's text TOLD by the authors' own Lean function (tested against real Go, not proved from fmt's source: count such statements apart). THE CARD IS WHAT COUNTS. Prove the row's statement (the work); the ties are given (YthcgdbgkofflnaaGreatDoorTie.lean); close each card by the builder's one call (the guide's Derived/Test/ToyasCard.lean, 'card_holds'). Laid BY PROGRAM, IN A SANDBOX (cutbox-door.mjs). By AI agents, Wed Nov 11 2026. No macro, syntax, notation, axiom, sorry.
-/
import Derived.Test.YthcgdbgkofflnaaGreatDoorRows
import GoSem.ClaimSeven
namespace Go.Proofs.YthcgdbgkofflnaaGreatDoor
namespace Rows

/-- THE TIED CARD OF 'gimletlaw20.InferLarge'. -/
def inferLargeCard : Claim7 := { stood := { row := inferLargeRow, standIns := [], harness := (true, "54d1e9e40cd62c8bfa32534be195d5b91b00fd4f7f1751e67fdb177a25116851"), looks := true }, kinds := [], alts := [], laidByText := true, laidKinds := [.data, .data, .data, .data, .sentinel, .sentinel, .pinned], laidTests := true, laidLooks := .later }
def InferLargeCardSaid : Prop := Claim7.holds Tryz.pinned (.plain (OpenSpec.ofChange inferLargeSpec)) inferLargeCard

/-- THE TIED CARD OF 'gimletlaw20.InferKnown'. -/
def inferKnownCard : Claim7 := { stood := { row := inferKnownRow, standIns := [], harness := (true, "54d1e9e40cd62c8bfa32534be195d5b91b00fd4f7f1751e67fdb177a25116851"), looks := true }, kinds := [], alts := [], laidByText := true, laidKinds := [.data, .data, .data, .data, .sentinel, .sentinel, .pinned], laidTests := true, laidLooks := .later }
def InferKnownCardSaid : Prop := Claim7.holds Tryz.pinned (.plain (OpenSpec.ofChange inferKnownSpec)) inferKnownCard

/-- THE TIED CARD OF 'gimletlaw20.InferAhead'. -/
def inferAheadCard : Claim7 := { stood := { row := inferAheadRow, standIns := [], harness := (true, "54d1e9e40cd62c8bfa32534be195d5b91b00fd4f7f1751e67fdb177a25116851"), looks := true }, kinds := [], alts := [], laidByText := true, laidKinds := [.data, .data, .data, .data, .sentinel, .sentinel, .pinned], laidTests := true, laidLooks := .later }
def InferAheadCardSaid : Prop := Claim7.holds Tryz.pinned (.plain (OpenSpec.ofChange inferAheadSpec)) inferAheadCard

/-- THE SECOND FORM's CARD OF 'gimletlaw20.InferLarge'. -/
def inferLargeUptoCard : Claim7 := { stood := { row := inferLargeUptoRow, standIns := [], harness := (true, "54d1e9e40cd62c8bfa32534be195d5b91b00fd4f7f1751e67fdb177a25116851"), looks := true }, kinds := [], alts := [], laidByText := true, laidKinds := [.data, .data, .data, .data, .sentinel, .sentinel, .pinned], laidTests := true, laidLooks := .later }
def InferLargeUptoCardSaid : Prop := Claim7.holds Tryz.pinned (.plain (OpenSpec.upto inferLargeSpec)) inferLargeUptoCard

/-- THE SECOND FORM's CARD OF 'gimletlaw20.InferKnown'. -/
def inferKnownUptoCard : Claim7 := { stood := { row := inferKnownUptoRow, standIns := [], harness := (true, "54d1e9e40cd62c8bfa32534be195d5b91b00fd4f7f1751e67fdb177a25116851"), looks := true }, kinds := [], alts := [], laidByText := true, laidKinds := [.data, .data, .data, .data, .sentinel, .sentinel, .pinned], laidTests := true, laidLooks := .later }
def InferKnownUptoCardSaid : Prop := Claim7.holds Tryz.pinned (.plain (OpenSpec.upto inferKnownSpec)) inferKnownUptoCard

/-- THE SECOND FORM's CARD OF 'gimletlaw20.InferAhead'. -/
def inferAheadUptoCard : Claim7 := { stood := { row := inferAheadUptoRow, standIns := [], harness := (true, "54d1e9e40cd62c8bfa32534be195d5b91b00fd4f7f1751e67fdb177a25116851"), looks := true }, kinds := [], alts := [], laidByText := true, laidKinds := [.data, .data, .data, .data, .sentinel, .sentinel, .pinned], laidTests := true, laidLooks := .later }
def InferAheadUptoCardSaid : Prop := Claim7.holds Tryz.pinned (.plain (OpenSpec.upto inferAheadSpec)) inferAheadUptoCard
end Rows
end Go.Proofs.YthcgdbgkofflnaaGreatDoor
