/-
  DERIVED. GIVEN WITH THE SEED: THE CARDS: each row of YtabfojpbldflcaaGreatDoorRows.lean that lists a variable, with what it lists TIED to the program's text (the seventh form; the later family's looks); each row that meets fmt, with fmt's text TOLD by the authors' own Lean function (tested against real Go, not proved from fmt's source: count such statements apart). THE CARD IS WHAT COUNTS. Prove the row's statement (the work); the ties are given (YtabfojpbldflcaaGreatDoorTie.lean); close each card by the builder's one call (the guide's Derived/Test/ToyasCard.lean, 'card_holds'). Laid BY PROGRAM, IN A SANDBOX (cutbox-door.mjs). By AI agents, Wed Nov 11 2026. No macro, syntax, notation, axiom, sorry.
-/
import Derived.Test.YtabfojpbldflcaaGreatDoorRows
import GoSem.ClaimSeven
namespace Go.Proofs.YtabfojpbldflcaaGreatDoor
namespace Rows

/-- THE TIED CARD OF 'gimletlaw22.SourceParts'. -/
def sourcePartsCard : Claim7 := { stood := { row := sourcePartsRow, standIns := [], harness := (true, "655ed9c49cae6b9bc29426c4923b4390a369d7d8db7f74516b6296a905b84c17"), looks := true }, kinds := [], alts := [], laidByText := true, laidKinds := [.data, .data, .data, .data, .sentinel, .sentinel, .pinned], laidTests := true, laidLooks := .later }
def SourcePartsCardSaid : Prop := Claim7.holds Tryz.pinned (.plain (OpenSpec.ofChange sourcePartsSpec)) sourcePartsCard

/-- THE TIED CARD OF 'gimletlaw22.SourceSums'. -/
def sourceSumsCard : Claim7 := { stood := { row := sourceSumsRow, standIns := [], harness := (true, "655ed9c49cae6b9bc29426c4923b4390a369d7d8db7f74516b6296a905b84c17"), looks := true }, kinds := [], alts := [], laidByText := true, laidKinds := [.data, .data, .data, .data, .sentinel, .sentinel, .pinned], laidTests := true, laidLooks := .later }
def SourceSumsCardSaid : Prop := Claim7.holds Tryz.pinned (.plain (OpenSpec.ofChange sourceSumsSpec)) sourceSumsCard

/-- THE TIED CARD OF 'gimletlaw22.SourceKnown'. -/
def sourceKnownCard : Claim7 := { stood := { row := sourceKnownRow, standIns := [], harness := (true, "655ed9c49cae6b9bc29426c4923b4390a369d7d8db7f74516b6296a905b84c17"), looks := true }, kinds := [], alts := [], laidByText := true, laidKinds := [.data, .data, .data, .data, .sentinel, .sentinel, .pinned], laidTests := true, laidLooks := .later }
def SourceKnownCardSaid : Prop := Claim7.holds Tryz.pinned (.plain (OpenSpec.ofChange sourceKnownSpec)) sourceKnownCard

/-- THE TIED CARD OF 'gimletlaw22.SourceMore'. -/
def sourceMoreCard : Claim7 := { stood := { row := sourceMoreRow, standIns := [], harness := (true, "655ed9c49cae6b9bc29426c4923b4390a369d7d8db7f74516b6296a905b84c17"), looks := true }, kinds := [], alts := [], laidByText := true, laidKinds := [.data, .data, .data, .data, .sentinel, .sentinel, .pinned], laidTests := true, laidLooks := .later }
def SourceMoreCardSaid : Prop := Claim7.holds Tryz.pinned (.plain (OpenSpec.ofChange sourceMoreSpec)) sourceMoreCard

/-- THE SECOND FORM's CARD OF 'gimletlaw22.SourceParts'. -/
def sourcePartsUptoCard : Claim7 := { stood := { row := sourcePartsUptoRow, standIns := [], harness := (true, "655ed9c49cae6b9bc29426c4923b4390a369d7d8db7f74516b6296a905b84c17"), looks := true }, kinds := [], alts := [], laidByText := true, laidKinds := [.data, .data, .data, .data, .sentinel, .sentinel, .pinned], laidTests := true, laidLooks := .later }
def SourcePartsUptoCardSaid : Prop := Claim7.holds Tryz.pinned (.plain (OpenSpec.upto sourcePartsSpec)) sourcePartsUptoCard

/-- THE SECOND FORM's CARD OF 'gimletlaw22.SourceSums'. -/
def sourceSumsUptoCard : Claim7 := { stood := { row := sourceSumsUptoRow, standIns := [], harness := (true, "655ed9c49cae6b9bc29426c4923b4390a369d7d8db7f74516b6296a905b84c17"), looks := true }, kinds := [], alts := [], laidByText := true, laidKinds := [.data, .data, .data, .data, .sentinel, .sentinel, .pinned], laidTests := true, laidLooks := .later }
def SourceSumsUptoCardSaid : Prop := Claim7.holds Tryz.pinned (.plain (OpenSpec.upto sourceSumsSpec)) sourceSumsUptoCard

/-- THE SECOND FORM's CARD OF 'gimletlaw22.SourceKnown'. -/
def sourceKnownUptoCard : Claim7 := { stood := { row := sourceKnownUptoRow, standIns := [], harness := (true, "655ed9c49cae6b9bc29426c4923b4390a369d7d8db7f74516b6296a905b84c17"), looks := true }, kinds := [], alts := [], laidByText := true, laidKinds := [.data, .data, .data, .data, .sentinel, .sentinel, .pinned], laidTests := true, laidLooks := .later }
def SourceKnownUptoCardSaid : Prop := Claim7.holds Tryz.pinned (.plain (OpenSpec.upto sourceKnownSpec)) sourceKnownUptoCard

/-- THE SECOND FORM's CARD OF 'gimletlaw22.SourceMore'. -/
def sourceMoreUptoCard : Claim7 := { stood := { row := sourceMoreUptoRow, standIns := [], harness := (true, "655ed9c49cae6b9bc29426c4923b4390a369d7d8db7f74516b6296a905b84c17"), looks := true }, kinds := [], alts := [], laidByText := true, laidKinds := [.data, .data, .data, .data, .sentinel, .sentinel, .pinned], laidTests := true, laidLooks := .later }
def SourceMoreUptoCardSaid : Prop := Claim7.holds Tryz.pinned (.plain (OpenSpec.upto sourceMoreSpec)) sourceMoreUptoCard
end Rows
end Go.Proofs.YtabfojpbldflcaaGreatDoor
