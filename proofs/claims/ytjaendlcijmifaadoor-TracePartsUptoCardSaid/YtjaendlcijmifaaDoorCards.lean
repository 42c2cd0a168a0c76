/-
  DERIVED. GIVEN WITH THE SEED: THE CARDS: each row of YtjaendlcijmifaaDoorRows.lean that lists a variable, with what it lists TIED to the program's text (the seventh form; the later family's looks); each row that meets fmt, with fmt's text TOLD by the authors' own Lean function (tested against real Go, not proved from fmt's source: count such statements apart). THE CARD IS WHAT COUNTS. Prove the row's statement (the work); the ties are given (YtjaendlcijmifaaDoorTie.lean); close each card by the builder's one call (the guide's Derived/Test/ToyasCard.lean, 'card_holds'). Laid BY PROGRAM, IN A SANDBOX (cutbox-door.mjs). By AI agents, Wed Nov 11 2026. No macro, syntax, notation, axiom, sorry.
-/
import Derived.Test.YtjaendlcijmifaaDoorRows
import GoSem.ClaimSeven
namespace Go.Proofs.YtjaendlcijmifaaDoor
namespace Rows

/-- THE TIED CARD OF 'reveillelaw30.TraceRing'. -/
def traceRingCard : Claim7 := { stood := { row := traceRingRow, standIns := [], harness := (true, "376d354ff889aacac426484d5f11efaf348f113a8318ff41d8f0026e3d99589b"), looks := true }, kinds := [], alts := [], laidByText := true, laidKinds := [.data, .data, .data, .data, .pinned], laidTests := true, laidLooks := .later }
def TraceRingCardSaid : Prop := Claim7.holds Tryd.pinned (.plain (OpenSpec.ofChange traceRingSpec)) traceRingCard

/-- THE TIED CARD OF 'reveillelaw30.TraceCauses'. -/
def traceCausesCard : Claim7 := { stood := { row := traceCausesRow, standIns := [], harness := (true, "376d354ff889aacac426484d5f11efaf348f113a8318ff41d8f0026e3d99589b"), looks := true }, kinds := [], alts := [], laidByText := true, laidKinds := [.data, .data, .data, .data, .pinned], laidTests := true, laidLooks := .later }
def TraceCausesCardSaid : Prop := Claim7.holds Tryd.pinned (.plain (OpenSpec.ofChange traceCausesSpec)) traceCausesCard

/-- THE TIED CARD OF 'reveillelaw30.TraceBack'. -/
def traceBackCard : Claim7 := { stood := { row := traceBackRow, standIns := [], harness := (true, "376d354ff889aacac426484d5f11efaf348f113a8318ff41d8f0026e3d99589b"), looks := true }, kinds := [], alts := [], laidByText := true, laidKinds := [.data, .data, .data, .data, .sentinel, .sentinel, .pinned], laidTests := true, laidLooks := .later }
def TraceBackCardSaid : Prop := Claim7.holds Tryd.pinned (.plain (OpenSpec.ofChange traceBackSpec)) traceBackCard

/-- THE TIED CARD OF 'reveillelaw30.TraceKeeps'. -/
def traceKeepsCard : Claim7 := { stood := { row := traceKeepsRow, standIns := [], harness := (true, "376d354ff889aacac426484d5f11efaf348f113a8318ff41d8f0026e3d99589b"), looks := true }, kinds := [], alts := [], laidByText := true, laidKinds := [.data, .data, .data, .data, .sentinel, .sentinel, .pinned], laidTests := true, laidLooks := .later }
def TraceKeepsCardSaid : Prop := Claim7.holds Tryd.pinned (.plain (OpenSpec.ofChange traceKeepsSpec)) traceKeepsCard

/-- THE TIED CARD OF 'reveillelaw30.TraceReads'. -/
def traceReadsCard : Claim7 := { stood := { row := traceReadsRow, standIns := [], harness := (true, "376d354ff889aacac426484d5f11efaf348f113a8318ff41d8f0026e3d99589b"), looks := true }, kinds := [], alts := [], laidByText := true, laidKinds := [.data, .data, .data, .data, .sentinel, .sentinel, .pinned], laidTests := true, laidLooks := .later }
def TraceReadsCardSaid : Prop := Claim7.holds Tryd.pinned (.plain (OpenSpec.ofChange traceReadsSpec)) traceReadsCard

/-- THE TIED CARD OF 'reveillelaw30.TraceParts'. -/
def tracePartsCard : Claim7 := { stood := { row := tracePartsRow, standIns := [], harness := (true, "376d354ff889aacac426484d5f11efaf348f113a8318ff41d8f0026e3d99589b"), looks := true }, kinds := [], alts := [], laidByText := true, laidKinds := [.data, .data, .data, .data, .pinned], laidTests := true, laidLooks := .later }
def TracePartsCardSaid : Prop := Claim7.holds Tryd.pinned (.plain (OpenSpec.ofChange tracePartsSpec)) tracePartsCard

/-- THE SECOND FORM's CARD OF 'reveillelaw30.TraceRing'. -/
def traceRingUptoCard : Claim7 := { stood := { row := traceRingUptoRow, standIns := [], harness := (true, "376d354ff889aacac426484d5f11efaf348f113a8318ff41d8f0026e3d99589b"), looks := true }, kinds := [], alts := [], laidByText := true, laidKinds := [.data, .data, .data, .data, .pinned], laidTests := true, laidLooks := .later }
def TraceRingUptoCardSaid : Prop := Claim7.holds Tryd.pinned (.plain (OpenSpec.upto traceRingSpec)) traceRingUptoCard

/-- THE SECOND FORM's CARD OF 'reveillelaw30.TraceCauses'. -/
def traceCausesUptoCard : Claim7 := { stood := { row := traceCausesUptoRow, standIns := [], harness := (true, "376d354ff889aacac426484d5f11efaf348f113a8318ff41d8f0026e3d99589b"), looks := true }, kinds := [], alts := [], laidByText := true, laidKinds := [.data, .data, .data, .data, .pinned], laidTests := true, laidLooks := .later }
def TraceCausesUptoCardSaid : Prop := Claim7.holds Tryd.pinned (.plain (OpenSpec.upto traceCausesSpec)) traceCausesUptoCard

/-- THE SECOND FORM's CARD OF 'reveillelaw30.TraceBack'. -/
def traceBackUptoCard : Claim7 := { stood := { row := traceBackUptoRow, standIns := [], harness := (true, "376d354ff889aacac426484d5f11efaf348f113a8318ff41d8f0026e3d99589b"), looks := true }, kinds := [], alts := [], laidByText := true, laidKinds := [.data, .data, .data, .data, .sentinel, .sentinel, .pinned], laidTests := true, laidLooks := .later }
def TraceBackUptoCardSaid : Prop := Claim7.holds Tryd.pinned (.plain (OpenSpec.upto traceBackSpec)) traceBackUptoCard

/-- THE SECOND FORM's CARD OF 'reveillelaw30.TraceKeeps'. -/
def traceKeepsUptoCard : Claim7 := { stood := { row := traceKeepsUptoRow, standIns := [], harness := (true, "376d354ff889aacac426484d5f11efaf348f113a8318ff41d8f0026e3d99589b"), looks := true }, kinds := [], alts := [], laidByText := true, laidKinds := [.data, .data, .data, .data, .sentinel, .sentinel, .pinned], laidTests := true, laidLooks := .later }
def TraceKeepsUptoCardSaid : Prop := Claim7.holds Tryd.pinned (.plain (OpenSpec.upto traceKeepsSpec)) traceKeepsUptoCard

/-- THE SECOND FORM's CARD OF 'reveillelaw30.TraceReads'. -/
def traceReadsUptoCard : Claim7 := { stood := { row := traceReadsUptoRow, standIns := [], harness := (true, "376d354ff889aacac426484d5f11efaf348f113a8318ff41d8f0026e3d99589b"), looks := true }, kinds := [], alts := [], laidByText := true, laidKinds := [.data, .data, .data, .data, .sentinel, .sentinel, .pinned], laidTests := true, laidLooks := .later }
def TraceReadsUptoCardSaid : Prop := Claim7.holds Tryd.pinned (.plain (OpenSpec.upto traceReadsSpec)) traceReadsUptoCard

/-- THE SECOND FORM's CARD OF 'reveillelaw30.TraceParts'. -/
def tracePartsUptoCard : Claim7 := { stood := { row := tracePartsUptoRow, standIns := [], harness := (true, "376d354ff889aacac426484d5f11efaf348f113a8318ff41d8f0026e3d99589b"), looks := true }, kinds := [], alts := [], laidByText := true, laidKinds := [.data, .data, .data, .data, .pinned], laidTests := true, laidLooks := .later }
def TracePartsUptoCardSaid : Prop := Claim7.holds Tryd.pinned (.plain (OpenSpec.upto tracePartsSpec)) tracePartsUptoCard
end Rows
end Go.Proofs.YtjaendlcijmifaaDoor
