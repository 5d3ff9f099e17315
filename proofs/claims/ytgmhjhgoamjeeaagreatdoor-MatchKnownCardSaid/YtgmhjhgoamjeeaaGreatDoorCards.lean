/-
  DERIVED. GIVEN WITH THE SEED: THE CARDS: each row of YtgmhjhgoamjeeaaGreatDoorRows.lean that lists a variable, with what it lists TIED to the program's text (the seventh form; the later family's looks); each row that meets fmt, with fmt's text TOLD by the authors' own Lean function (tested against real Go, not proved from fmt's source: count such statements apart). THE CARD IS WHAT COUNTS. Prove the row's statement (the work); the ties are given (YtgmhjhgoamjeeaaGreatDoorTie.lean); close each card by the builder's one call (the guide's Derived/Test/ToyasCard.lean, 'card_holds'). Laid BY PROGRAM, IN A SANDBOX (cutbox-door.mjs). By AI agents, Wed Nov 11 2026. No macro, syntax, notation, axiom, sorry.
-/
import Derived.Test.YtgmhjhgoamjeeaaGreatDoorRows
import GoSem.ClaimSeven
namespace Go.Proofs.YtgmhjhgoamjeeaaGreatDoor
namespace Rows

/-- THE TIED CARD OF 'gimletlaw24.MatchAsks'. -/
def matchAsksCard : Claim7 := { stood := { row := matchAsksRow, standIns := [], harness := (true, "e5839d4b1bf30a1bdf932ce6c94dd6e8513916d7e6920b2fc84b52551d937462"), looks := true }, kinds := [], alts := [], laidByText := true, laidKinds := [.data, .data, .data, .data, .sentinel, .sentinel, .pinned], laidTests := true, laidLooks := .later }
def MatchAsksCardSaid : Prop := Claim7.holds Tryz.pinned (.plain (OpenSpec.ofChange matchAsksSpec)) matchAsksCard

/-- THE TIED CARD OF 'gimletlaw23.CoverTells'. -/
def coverTellsCard : Claim7 := { stood := { row := coverTellsRow, standIns := [], harness := (true, "e5839d4b1bf30a1bdf932ce6c94dd6e8513916d7e6920b2fc84b52551d937462"), looks := true }, kinds := [], alts := [], laidByText := true, laidKinds := [.data, .data, .data, .data, .sentinel, .sentinel, .pinned], laidTests := true, laidLooks := .later }
def CoverTellsCardSaid : Prop := Claim7.holds Tryz.pinned (.plain (OpenSpec.ofChange coverTellsSpec)) coverTellsCard

/-- THE TIED CARD OF 'gimletlaw24.MatchKnown'. -/
def matchKnownCard : Claim7 := { stood := { row := matchKnownRow, standIns := [], harness := (true, "e5839d4b1bf30a1bdf932ce6c94dd6e8513916d7e6920b2fc84b52551d937462"), looks := true }, kinds := [], alts := [], laidByText := true, laidKinds := [.data, .data, .data, .data, .sentinel, .sentinel, .pinned], laidTests := true, laidLooks := .later }
def MatchKnownCardSaid : Prop := Claim7.holds Tryz.pinned (.plain (OpenSpec.ofChange matchKnownSpec)) matchKnownCard

/-- THE TIED CARD OF 'gimletlaw24.MatchDecides'. -/
def matchDecidesCard : Claim7 := { stood := { row := matchDecidesRow, standIns := [], harness := (true, "e5839d4b1bf30a1bdf932ce6c94dd6e8513916d7e6920b2fc84b52551d937462"), looks := true }, kinds := [], alts := [], laidByText := true, laidKinds := [.data, .data, .data, .data, .sentinel, .sentinel, .pinned], laidTests := true, laidLooks := .later }
def MatchDecidesCardSaid : Prop := Claim7.holds Tryz.pinned (.plain (OpenSpec.ofChange matchDecidesSpec)) matchDecidesCard

/-- THE SECOND FORM's CARD OF 'gimletlaw24.MatchAsks'. -/
def matchAsksUptoCard : Claim7 := { stood := { row := matchAsksUptoRow, standIns := [], harness := (true, "e5839d4b1bf30a1bdf932ce6c94dd6e8513916d7e6920b2fc84b52551d937462"), looks := true }, kinds := [], alts := [], laidByText := true, laidKinds := [.data, .data, .data, .data, .sentinel, .sentinel, .pinned], laidTests := true, laidLooks := .later }
def MatchAsksUptoCardSaid : Prop := Claim7.holds Tryz.pinned (.plain (OpenSpec.upto matchAsksSpec)) matchAsksUptoCard

/-- THE SECOND FORM's CARD OF 'gimletlaw23.CoverTells'. -/
def coverTellsUptoCard : Claim7 := { stood := { row := coverTellsUptoRow, standIns := [], harness := (true, "e5839d4b1bf30a1bdf932ce6c94dd6e8513916d7e6920b2fc84b52551d937462"), looks := true }, kinds := [], alts := [], laidByText := true, laidKinds := [.data, .data, .data, .data, .sentinel, .sentinel, .pinned], laidTests := true, laidLooks := .later }
def CoverTellsUptoCardSaid : Prop := Claim7.holds Tryz.pinned (.plain (OpenSpec.upto coverTellsSpec)) coverTellsUptoCard

/-- THE SECOND FORM's CARD OF 'gimletlaw24.MatchKnown'. -/
def matchKnownUptoCard : Claim7 := { stood := { row := matchKnownUptoRow, standIns := [], harness := (true, "e5839d4b1bf30a1bdf932ce6c94dd6e8513916d7e6920b2fc84b52551d937462"), looks := true }, kinds := [], alts := [], laidByText := true, laidKinds := [.data, .data, .data, .data, .sentinel, .sentinel, .pinned], laidTests := true, laidLooks := .later }
def MatchKnownUptoCardSaid : Prop := Claim7.holds Tryz.pinned (.plain (OpenSpec.upto matchKnownSpec)) matchKnownUptoCard

/-- THE SECOND FORM's CARD OF 'gimletlaw24.MatchDecides'. -/
def matchDecidesUptoCard : Claim7 := { stood := { row := matchDecidesUptoRow, standIns := [], harness := (true, "e5839d4b1bf30a1bdf932ce6c94dd6e8513916d7e6920b2fc84b52551d937462"), looks := true }, kinds := [], alts := [], laidByText := true, laidKinds := [.data, .data, .data, .data, .sentinel, .sentinel, .pinned], laidTests := true, laidLooks := .later }
def MatchDecidesUptoCardSaid : Prop := Claim7.holds Tryz.pinned (.plain (OpenSpec.upto matchDecidesSpec)) matchDecidesUptoCard
end Rows
end Go.Proofs.YtgmhjhgoamjeeaaGreatDoor
