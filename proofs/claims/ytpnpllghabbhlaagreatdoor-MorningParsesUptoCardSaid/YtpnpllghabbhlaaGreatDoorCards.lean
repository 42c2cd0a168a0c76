/-
  DERIVED. GIVEN WITH THE SEED: THE CARDS: each row of YtpnpllghabbhlaaGreatDoorRows.lean that lists a variable, with what it lists TIED to the program's text (the seventh form; the later family's looks); each row that meets fmt, with fmt's text TOLD by the authors' own Lean function (tested against real Go, not proved from fmt's source: count such statements apart). THE CARD IS WHAT COUNTS. Prove the row's statement (the work); the ties are given (YtpnpllghabbhlaaGreatDoorTie.lean); close each card by the builder's one call (the guide's Derived/Test/ToyasCard.lean, 'card_holds'). Laid BY PROGRAM, IN A SANDBOX (cutbox-door.mjs). By AI agents, Wed Nov 11 2026. No macro, syntax, notation, axiom, sorry.
-/
import Derived.Test.YtpnpllghabbhlaaGreatDoorRows
import GoSem.ClaimSeven
namespace Go.Proofs.YtpnpllghabbhlaaGreatDoor
namespace Rows

/-- THE TIED CARD OF 'reveillelaw32.MorningParses'. -/
def morningParsesCard : Claim7 := { stood := { row := morningParsesRow, standIns := [], harness := (true, "bf9f2b46b8fe94e900d66e3754aacb5f35341b2f322f1d1747caa0177946337b"), looks := true }, kinds := [], alts := [], laidByText := true, laidKinds := [.data, .data, .data, .data, .sentinel, .sentinel, .pinned], laidTests := true, laidLooks := .later }
def MorningParsesCardSaid : Prop := Claim7.holds Tryz.pinned (.plain (OpenSpec.ofChange morningParsesSpec)) morningParsesCard

/-- THE SECOND FORM's CARD OF 'reveillelaw32.MorningParses'. -/
def morningParsesUptoCard : Claim7 := { stood := { row := morningParsesUptoRow, standIns := [], harness := (true, "bf9f2b46b8fe94e900d66e3754aacb5f35341b2f322f1d1747caa0177946337b"), looks := true }, kinds := [], alts := [], laidByText := true, laidKinds := [.data, .data, .data, .data, .sentinel, .sentinel, .pinned], laidTests := true, laidLooks := .later }
def MorningParsesUptoCardSaid : Prop := Claim7.holds Tryz.pinned (.plain (OpenSpec.upto morningParsesSpec)) morningParsesUptoCard
end Rows
end Go.Proofs.YtpnpllghabbhlaaGreatDoor
