/-
  DERIVED. GIVEN WITH THE SEED: THE CARDS: each row of YthppadlcejpgbaaGreatDoorRows.lean that lists a variable, with what it lists TIED to the program's text (the seventh form; the later family's looks); each row that meets fmt, with fmt's text TOLD by the authors' own Lean function (tested against real Go, not proved from fmt's source: count such statements apart). THE CARD IS WHAT COUNTS. Prove the row's statement (the work); the ties are given (YthppadlcejpgbaaGreatDoorTie.lean); close each card by the builder's one call (the guide's Derived/Test/ToyasCard.lean, 'card_holds'). Laid BY PROGRAM, IN A SANDBOX (cutbox-door.mjs). By AI agents, Wed Nov 11 2026. No macro, syntax, notation, axiom, sorry.
-/
import Derived.Test.YthppadlcejpgbaaGreatDoorRows
import GoSem.ClaimSeven
namespace Go.Proofs.YthppadlcejpgbaaGreatDoor
namespace Rows

/-- THE TIED CARD OF 'reveillelaw02.CellsNames'. -/
def cellsNamesCard : Claim7 := { stood := { row := cellsNamesRow, standIns := [], harness := (true, "f689762c6590b19baef573c28e8bad4cf9301116252112a04020fad6f2ac6157"), looks := true }, kinds := [], alts := [], laidByText := true, laidKinds := [.data, .data, .data, .data, .pinned], laidTests := true, laidLooks := .later }
def CellsNamesCardSaid : Prop := Claim7.holds Tryz.pinned (.plain (OpenSpec.ofChange cellsNamesSpec)) cellsNamesCard

/-- THE TIED CARD OF 'reveillelaw02.CellsShows'. -/
def cellsShowsCard : Claim7 := { stood := { row := cellsShowsRow, standIns := [], harness := (true, "f689762c6590b19baef573c28e8bad4cf9301116252112a04020fad6f2ac6157"), looks := true }, kinds := [], alts := [], laidByText := true, laidKinds := [.data, .data, .data, .data, .sentinel, .sentinel, .pinned], laidTests := true, laidLooks := .later }
def CellsShowsCardSaid : Prop := Claim7.holds Tryz.pinned (.plain (OpenSpec.ofChange cellsShowsSpec)) cellsShowsCard

/-- THE TIED CARD OF 'reveillelaw02.CellsShown'. -/
def cellsShownCard : Claim7 := { stood := { row := cellsShownRow, standIns := [], harness := (true, "f689762c6590b19baef573c28e8bad4cf9301116252112a04020fad6f2ac6157"), looks := true }, kinds := [], alts := [], laidByText := true, laidKinds := [.data, .data, .data, .data, .sentinel, .sentinel, .pinned], laidTests := true, laidLooks := .later }
def CellsShownCardSaid : Prop := Claim7.holds Tryz.pinned (.plain (OpenSpec.ofChange cellsShownSpec)) cellsShownCard

/-- THE TIED CARD OF 'reveillelaw02.CellsWalks'. -/
def cellsWalksCard : Claim7 := { stood := { row := cellsWalksRow, standIns := [], harness := (true, "f689762c6590b19baef573c28e8bad4cf9301116252112a04020fad6f2ac6157"), looks := true }, kinds := [], alts := [], laidByText := true, laidKinds := [.data, .data, .data, .data, .sentinel, .sentinel, .pinned], laidTests := true, laidLooks := .later }
def CellsWalksCardSaid : Prop := Claim7.holds Tryz.pinned (.plain (OpenSpec.ofChange cellsWalksSpec)) cellsWalksCard

/-- THE TIED CARD OF 'reveillelaw02.CellsBack'. -/
def cellsBackCard : Claim7 := { stood := { row := cellsBackRow, standIns := [], harness := (true, "f689762c6590b19baef573c28e8bad4cf9301116252112a04020fad6f2ac6157"), looks := true }, kinds := [], alts := [], laidByText := true, laidKinds := [.data, .data, .data, .data, .sentinel, .sentinel, .pinned], laidTests := true, laidLooks := .later }
def CellsBackCardSaid : Prop := Claim7.holds Tryz.pinned (.plain (OpenSpec.ofChange cellsBackSpec)) cellsBackCard

/-- THE SECOND FORM's CARD OF 'reveillelaw02.CellsNames'. -/
def cellsNamesUptoCard : Claim7 := { stood := { row := cellsNamesUptoRow, standIns := [], harness := (true, "f689762c6590b19baef573c28e8bad4cf9301116252112a04020fad6f2ac6157"), looks := true }, kinds := [], alts := [], laidByText := true, laidKinds := [.data, .data, .data, .data, .pinned], laidTests := true, laidLooks := .later }
def CellsNamesUptoCardSaid : Prop := Claim7.holds Tryz.pinned (.plain (OpenSpec.upto cellsNamesSpec)) cellsNamesUptoCard

/-- THE SECOND FORM's CARD OF 'reveillelaw02.CellsShows'. -/
def cellsShowsUptoCard : Claim7 := { stood := { row := cellsShowsUptoRow, standIns := [], harness := (true, "f689762c6590b19baef573c28e8bad4cf9301116252112a04020fad6f2ac6157"), looks := true }, kinds := [], alts := [], laidByText := true, laidKinds := [.data, .data, .data, .data, .sentinel, .sentinel, .pinned], laidTests := true, laidLooks := .later }
def CellsShowsUptoCardSaid : Prop := Claim7.holds Tryz.pinned (.plain (OpenSpec.upto cellsShowsSpec)) cellsShowsUptoCard

/-- THE SECOND FORM's CARD OF 'reveillelaw02.CellsShown'. -/
def cellsShownUptoCard : Claim7 := { stood := { row := cellsShownUptoRow, standIns := [], harness := (true, "f689762c6590b19baef573c28e8bad4cf9301116252112a04020fad6f2ac6157"), looks := true }, kinds := [], alts := [], laidByText := true, laidKinds := [.data, .data, .data, .data, .sentinel, .sentinel, .pinned], laidTests := true, laidLooks := .later }
def CellsShownUptoCardSaid : Prop := Claim7.holds Tryz.pinned (.plain (OpenSpec.upto cellsShownSpec)) cellsShownUptoCard

/-- THE SECOND FORM's CARD OF 'reveillelaw02.CellsWalks'. -/
def cellsWalksUptoCard : Claim7 := { stood := { row := cellsWalksUptoRow, standIns := [], harness := (true, "f689762c6590b19baef573c28e8bad4cf9301116252112a04020fad6f2ac6157"), looks := true }, kinds := [], alts := [], laidByText := true, laidKinds := [.data, .data, .data, .data, .sentinel, .sentinel, .pinned], laidTests := true, laidLooks := .later }
def CellsWalksUptoCardSaid : Prop := Claim7.holds Tryz.pinned (.plain (OpenSpec.upto cellsWalksSpec)) cellsWalksUptoCard

/-- THE SECOND FORM's CARD OF 'reveillelaw02.CellsBack'. -/
def cellsBackUptoCard : Claim7 := { stood := { row := cellsBackUptoRow, standIns := [], harness := (true, "f689762c6590b19baef573c28e8bad4cf9301116252112a04020fad6f2ac6157"), looks := true }, kinds := [], alts := [], laidByText := true, laidKinds := [.data, .data, .data, .data, .sentinel, .sentinel, .pinned], laidTests := true, laidLooks := .later }
def CellsBackUptoCardSaid : Prop := Claim7.holds Tryz.pinned (.plain (OpenSpec.upto cellsBackSpec)) cellsBackUptoCard
end Rows
end Go.Proofs.YthppadlcejpgbaaGreatDoor
