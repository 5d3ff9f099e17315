/-
  DERIVED. GIVEN WITH THE SEED: THE CARDS: each row of YthemdhlheglhoaaGreatDoorRows.lean that lists a variable, with what it lists TIED to the program's text (the seventh form; the later family's looks); each row that meets fmt, with fmt's text TOLD by the authors' own Lean function (tested against real Go, not proved from fmt's source: count such statements apart). THE CARD IS WHAT COUNTS. Prove the row's statement (the work); the ties are given (YthemdhlheglhoaaGreatDoorTie.lean); close each card by the builder's one call (the guide's Derived/Test/ToyasCard.lean, 'card_holds'). Laid BY PROGRAM, IN A SANDBOX (cutbox-door.mjs). By AI agents, Wed Nov 11 2026. No macro, syntax, notation, axiom, sorry.
-/
import Derived.Test.YthemdhlheglhoaaGreatDoorRows
import GoSem.ClaimSeven
namespace Go.Proofs.YthemdhlheglhoaaGreatDoor
namespace Rows

/-- THE TIED CARD OF 'gimletlaw19.TypesUnifies'. -/
def typesUnifiesCard : Claim7 := { stood := { row := typesUnifiesRow, standIns := [], harness := (true, "fd282c945bc828b13af569b0c305e3ea8f7e6da945325eb930921411db30dfc6"), looks := true }, kinds := [], alts := [], laidByText := true, laidKinds := [.data, .data, .data, .data, .sentinel, .sentinel, .pinned], laidTests := true, laidLooks := .later }
def TypesUnifiesCardSaid : Prop := Claim7.holds Tryz.pinned (.plain (OpenSpec.ofChange typesUnifiesSpec)) typesUnifiesCard

/-- THE TIED CARD OF 'gimletlaw19.TypesLong'. -/
def typesLongCard : Claim7 := { stood := { row := typesLongRow, standIns := [], harness := (true, "fd282c945bc828b13af569b0c305e3ea8f7e6da945325eb930921411db30dfc6"), looks := true }, kinds := [], alts := [], laidByText := true, laidKinds := [.data, .data, .data, .data, .sentinel, .sentinel, .pinned], laidTests := true, laidLooks := .later }
def TypesLongCardSaid : Prop := Claim7.holds Tryz.pinned (.plain (OpenSpec.ofChange typesLongSpec)) typesLongCard

/-- THE TIED CARD OF 'gimletlaw19.TypesApplies'. -/
def typesAppliesCard : Claim7 := { stood := { row := typesAppliesRow, standIns := [], harness := (true, "fd282c945bc828b13af569b0c305e3ea8f7e6da945325eb930921411db30dfc6"), looks := true }, kinds := [], alts := [], laidByText := true, laidKinds := [.data, .data, .data, .data, .sentinel, .sentinel, .pinned], laidTests := true, laidLooks := .later }
def TypesAppliesCardSaid : Prop := Claim7.holds Tryz.pinned (.plain (OpenSpec.ofChange typesAppliesSpec)) typesAppliesCard

/-- THE TIED CARD OF 'gimletlaw19.TypesOrder'. -/
def typesOrderCard : Claim7 := { stood := { row := typesOrderRow, standIns := [], harness := (true, "fd282c945bc828b13af569b0c305e3ea8f7e6da945325eb930921411db30dfc6"), looks := true }, kinds := [], alts := [], laidByText := true, laidKinds := [.data, .data, .data, .data, .sentinel, .sentinel, .pinned], laidTests := true, laidLooks := .later }
def TypesOrderCardSaid : Prop := Claim7.holds Tryz.pinned (.plain (OpenSpec.ofChange typesOrderSpec)) typesOrderCard

/-- THE TIED CARD OF 'gimletlaw19.TypesTells'. -/
def typesTellsCard : Claim7 := { stood := { row := typesTellsRow, standIns := [], harness := (true, "fd282c945bc828b13af569b0c305e3ea8f7e6da945325eb930921411db30dfc6"), looks := true }, kinds := [], alts := [], laidByText := true, laidKinds := [.data, .data, .data, .data, .sentinel, .sentinel, .pinned], laidTests := true, laidLooks := .later }
def TypesTellsCardSaid : Prop := Claim7.holds Tryz.pinned (.plain (OpenSpec.ofChange typesTellsSpec)) typesTellsCard

/-- THE TIED CARD OF 'gimletlaw19.TypesKnown'. -/
def typesKnownCard : Claim7 := { stood := { row := typesKnownRow, standIns := [], harness := (true, "fd282c945bc828b13af569b0c305e3ea8f7e6da945325eb930921411db30dfc6"), looks := true }, kinds := [], alts := [], laidByText := true, laidKinds := [.data, .data, .data, .data, .sentinel, .sentinel, .pinned], laidTests := true, laidLooks := .later }
def TypesKnownCardSaid : Prop := Claim7.holds Tryz.pinned (.plain (OpenSpec.ofChange typesKnownSpec)) typesKnownCard

/-- THE TIED CARD OF 'gimletlaw19.TypesMost'. -/
def typesMostCard : Claim7 := { stood := { row := typesMostRow, standIns := [], harness := (true, "fd282c945bc828b13af569b0c305e3ea8f7e6da945325eb930921411db30dfc6"), looks := true }, kinds := [], alts := [], laidByText := true, laidKinds := [.data, .data, .data, .data, .sentinel, .sentinel, .pinned], laidTests := true, laidLooks := .later }
def TypesMostCardSaid : Prop := Claim7.holds Tryz.pinned (.plain (OpenSpec.ofChange typesMostSpec)) typesMostCard

/-- THE SECOND FORM's CARD OF 'gimletlaw19.TypesUnifies'. -/
def typesUnifiesUptoCard : Claim7 := { stood := { row := typesUnifiesUptoRow, standIns := [], harness := (true, "fd282c945bc828b13af569b0c305e3ea8f7e6da945325eb930921411db30dfc6"), looks := true }, kinds := [], alts := [], laidByText := true, laidKinds := [.data, .data, .data, .data, .sentinel, .sentinel, .pinned], laidTests := true, laidLooks := .later }
def TypesUnifiesUptoCardSaid : Prop := Claim7.holds Tryz.pinned (.plain (OpenSpec.upto typesUnifiesSpec)) typesUnifiesUptoCard

/-- THE SECOND FORM's CARD OF 'gimletlaw19.TypesLong'. -/
def typesLongUptoCard : Claim7 := { stood := { row := typesLongUptoRow, standIns := [], harness := (true, "fd282c945bc828b13af569b0c305e3ea8f7e6da945325eb930921411db30dfc6"), looks := true }, kinds := [], alts := [], laidByText := true, laidKinds := [.data, .data, .data, .data, .sentinel, .sentinel, .pinned], laidTests := true, laidLooks := .later }
def TypesLongUptoCardSaid : Prop := Claim7.holds Tryz.pinned (.plain (OpenSpec.upto typesLongSpec)) typesLongUptoCard

/-- THE SECOND FORM's CARD OF 'gimletlaw19.TypesApplies'. -/
def typesAppliesUptoCard : Claim7 := { stood := { row := typesAppliesUptoRow, standIns := [], harness := (true, "fd282c945bc828b13af569b0c305e3ea8f7e6da945325eb930921411db30dfc6"), looks := true }, kinds := [], alts := [], laidByText := true, laidKinds := [.data, .data, .data, .data, .sentinel, .sentinel, .pinned], laidTests := true, laidLooks := .later }
def TypesAppliesUptoCardSaid : Prop := Claim7.holds Tryz.pinned (.plain (OpenSpec.upto typesAppliesSpec)) typesAppliesUptoCard

/-- THE SECOND FORM's CARD OF 'gimletlaw19.TypesOrder'. -/
def typesOrderUptoCard : Claim7 := { stood := { row := typesOrderUptoRow, standIns := [], harness := (true, "fd282c945bc828b13af569b0c305e3ea8f7e6da945325eb930921411db30dfc6"), looks := true }, kinds := [], alts := [], laidByText := true, laidKinds := [.data, .data, .data, .data, .sentinel, .sentinel, .pinned], laidTests := true, laidLooks := .later }
def TypesOrderUptoCardSaid : Prop := Claim7.holds Tryz.pinned (.plain (OpenSpec.upto typesOrderSpec)) typesOrderUptoCard

/-- THE SECOND FORM's CARD OF 'gimletlaw19.TypesTells'. -/
def typesTellsUptoCard : Claim7 := { stood := { row := typesTellsUptoRow, standIns := [], harness := (true, "fd282c945bc828b13af569b0c305e3ea8f7e6da945325eb930921411db30dfc6"), looks := true }, kinds := [], alts := [], laidByText := true, laidKinds := [.data, .data, .data, .data, .sentinel, .sentinel, .pinned], laidTests := true, laidLooks := .later }
def TypesTellsUptoCardSaid : Prop := Claim7.holds Tryz.pinned (.plain (OpenSpec.upto typesTellsSpec)) typesTellsUptoCard

/-- THE SECOND FORM's CARD OF 'gimletlaw19.TypesKnown'. -/
def typesKnownUptoCard : Claim7 := { stood := { row := typesKnownUptoRow, standIns := [], harness := (true, "fd282c945bc828b13af569b0c305e3ea8f7e6da945325eb930921411db30dfc6"), looks := true }, kinds := [], alts := [], laidByText := true, laidKinds := [.data, .data, .data, .data, .sentinel, .sentinel, .pinned], laidTests := true, laidLooks := .later }
def TypesKnownUptoCardSaid : Prop := Claim7.holds Tryz.pinned (.plain (OpenSpec.upto typesKnownSpec)) typesKnownUptoCard

/-- THE SECOND FORM's CARD OF 'gimletlaw19.TypesMost'. -/
def typesMostUptoCard : Claim7 := { stood := { row := typesMostUptoRow, standIns := [], harness := (true, "fd282c945bc828b13af569b0c305e3ea8f7e6da945325eb930921411db30dfc6"), looks := true }, kinds := [], alts := [], laidByText := true, laidKinds := [.data, .data, .data, .data, .sentinel, .sentinel, .pinned], laidTests := true, laidLooks := .later }
def TypesMostUptoCardSaid : Prop := Claim7.holds Tryz.pinned (.plain (OpenSpec.upto typesMostSpec)) typesMostUptoCard
end Rows
end Go.Proofs.YthemdhlheglhoaaGreatDoor
