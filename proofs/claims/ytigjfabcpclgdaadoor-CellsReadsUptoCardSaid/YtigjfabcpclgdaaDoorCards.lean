/-
  DERIVED. GIVEN WITH THE SEED: THE CARDS: each row of YtigjfabcpclgdaaDoorRows.lean that lists a variable, with what it lists TIED to the program's text (the seventh form; the later family's looks); each row that meets fmt, with fmt's text TOLD by the authors' own Lean function (tested against real Go, not proved from fmt's source: count such statements apart). THE CARD IS WHAT COUNTS. Prove the row's statement (the work); the ties are given (YtigjfabcpclgdaaDoorTie.lean); close each card by the builder's one call (the guide's Derived/Test/ToyasCard.lean, 'card_holds'). Laid BY PROGRAM, IN A SANDBOX (cutbox-door.mjs). By AI agents, Wed Nov 11 2026. No macro, syntax, notation, axiom, sorry.
-/
import Derived.Test.YtigjfabcpclgdaaDoorRows
import GoSem.ClaimSeven
namespace Go.Proofs.YtigjfabcpclgdaaDoor
namespace Rows

/-- THE TIED CARD OF 'reveillelaw02.CellsReads'. -/
def cellsReadsCard : Claim7 := { stood := { row := cellsReadsRow, standIns := [], harness := (true, "42914e3566dbd801934fe1498dd0b388ffe36bdf76008b301e860c34e954416a"), looks := false }, kinds := [], alts := [], laidByText := true, laidKinds := [.data, .pinned], laidTests := true, laidLooks := .later }
def CellsReadsCardSaid : Prop := Claim7.holds Tryd.pinned (.plain (OpenSpec.ofChange cellsReadsSpec)) cellsReadsCard

/-- THE SECOND FORM's CARD OF 'reveillelaw02.CellsReads'. -/
def cellsReadsUptoCard : Claim7 := { stood := { row := cellsReadsUptoRow, standIns := [], harness := (true, "42914e3566dbd801934fe1498dd0b388ffe36bdf76008b301e860c34e954416a"), looks := false }, kinds := [], alts := [], laidByText := true, laidKinds := [.data, .pinned], laidTests := true, laidLooks := .later }
def CellsReadsUptoCardSaid : Prop := Claim7.holds Tryd.pinned (.plain (OpenSpec.upto cellsReadsSpec)) cellsReadsUptoCard
end Rows
end Go.Proofs.YtigjfabcpclgdaaDoor
