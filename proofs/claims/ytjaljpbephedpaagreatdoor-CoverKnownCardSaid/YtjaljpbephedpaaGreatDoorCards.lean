/-
  DERIVED. GIVEN WITH THE SEED: THE CARDS: each row of YtjaljpbephedpaaGreatDoorRows.lean that lists a variable, with what it lists TIED to the program's text (the seventh form; the later family's looks); each row that meets fmt, with fmt's text TOLD by the authors' own Lean function (tested against real Go, not proved from fmt's source: count such statements apart). THE CARD IS WHAT COUNTS. Prove the row's statement (the work); the ties are given (YtjaljpbephedpaaGreatDoorTie.lean); close each card by the builder's one call (the guide's Derived/Test/ToyasCard.lean, 'card_holds'). Laid BY PROGRAM, IN A SANDBOX (cutbox-door.mjs). By AI agents, Wed Nov 11 2026. No macro, syntax, notation, axiom, sorry.
-/
import Derived.Test.YtjaljpbephedpaaGreatDoorRows
import GoSem.ClaimSeven
namespace Go.Proofs.YtjaljpbephedpaaGreatDoor
namespace Rows

/-- THE TIED CARD OF 'gimletlaw23.CoverKnown'. -/
def coverKnownCard : Claim7 := { stood := { row := coverKnownRow, standIns := [], harness := (true, "3e13b49da69e33b55264e8619e3ce7cd1eeeca00d3f277a7c8da775e285dcf2d"), looks := true }, kinds := [], alts := [], laidByText := true, laidKinds := [.data, .data, .data, .data, .sentinel, .sentinel, .pinned], laidTests := true, laidLooks := .later }
def CoverKnownCardSaid : Prop := Claim7.holds Tryz.pinned (.plain (OpenSpec.ofChange coverKnownSpec)) coverKnownCard

/-- THE SECOND FORM's CARD OF 'gimletlaw23.CoverKnown'. -/
def coverKnownUptoCard : Claim7 := { stood := { row := coverKnownUptoRow, standIns := [], harness := (true, "3e13b49da69e33b55264e8619e3ce7cd1eeeca00d3f277a7c8da775e285dcf2d"), looks := true }, kinds := [], alts := [], laidByText := true, laidKinds := [.data, .data, .data, .data, .sentinel, .sentinel, .pinned], laidTests := true, laidLooks := .later }
def CoverKnownUptoCardSaid : Prop := Claim7.holds Tryz.pinned (.plain (OpenSpec.upto coverKnownSpec)) coverKnownUptoCard
end Rows
end Go.Proofs.YtjaljpbephedpaaGreatDoor
