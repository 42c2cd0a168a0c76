/-
  DERIVED. GIVEN WITH THE SEED: THE CARDS: each row of YtfbnfhhmiiahnaaGreatDoorRows.lean that lists a variable, with what it lists TIED to the program's text (the seventh form; the later family's looks); each row that meets fmt, with fmt's text TOLD by the authors' own Lean function (tested against real Go, not proved from fmt's source: count such statements apart). THE CARD IS WHAT COUNTS. Prove the row's statement (the work); the ties are given (YtfbnfhhmiiahnaaGreatDoorTie.lean); close each card by the builder's one call (the guide's Derived/Test/ToyasCard.lean, 'card_holds'). Laid BY PROGRAM, IN A SANDBOX (cutbox-door.mjs). By AI agents, Wed Nov 11 2026. No macro, syntax, notation, axiom, sorry.
-/
import Derived.Test.YtfbnfhhmiiahnaaGreatDoorRows
import GoSem.ClaimSeven
namespace Go.Proofs.YtfbnfhhmiiahnaaGreatDoor
namespace Rows

/-- THE TIED CARD OF 'reveillelaw24.SleepSafe'. -/
def sleepSafeCard : Claim7 := { stood := { row := sleepSafeRow, standIns := [], harness := (true, "a3f6f53a7e4c915eb92860b9232efc17b1e120ed53a81b365404f79b5cf744b4"), looks := false }, kinds := [], alts := [], laidByText := true, laidKinds := [.data, .pinned], laidTests := true, laidLooks := .later }
def SleepSafeCardSaid : Prop := Claim7.holds Tryz.pinned (.plain (OpenSpec.ofChange sleepSafeSpec)) sleepSafeCard

/-- THE TIED CARD OF 'reveillelaw24.SleepNothing'. -/
def sleepNothingCard : Claim7 := { stood := { row := sleepNothingRow, standIns := [], harness := (true, "a3f6f53a7e4c915eb92860b9232efc17b1e120ed53a81b365404f79b5cf744b4"), looks := false }, kinds := [], alts := [], laidByText := true, laidKinds := [.data, .pinned], laidTests := true, laidLooks := .later }
def SleepNothingCardSaid : Prop := Claim7.holds Tryz.pinned (.plain (OpenSpec.ofChange sleepNothingSpec)) sleepNothingCard

/-- THE TIED CARD OF 'reveillelaw24.SleepNone'. -/
def sleepNoneCard : Claim7 := { stood := { row := sleepNoneRow, standIns := [], harness := (true, "a3f6f53a7e4c915eb92860b9232efc17b1e120ed53a81b365404f79b5cf744b4"), looks := false }, kinds := [], alts := [], laidByText := true, laidKinds := [.data, .pinned], laidTests := true, laidLooks := .later }
def SleepNoneCardSaid : Prop := Claim7.holds Tryz.pinned (.plain (OpenSpec.ofChange sleepNoneSpec)) sleepNoneCard

/-- THE SECOND FORM's CARD OF 'reveillelaw24.SleepSafe'. -/
def sleepSafeUptoCard : Claim7 := { stood := { row := sleepSafeUptoRow, standIns := [], harness := (true, "a3f6f53a7e4c915eb92860b9232efc17b1e120ed53a81b365404f79b5cf744b4"), looks := false }, kinds := [], alts := [], laidByText := true, laidKinds := [.data, .pinned], laidTests := true, laidLooks := .later }
def SleepSafeUptoCardSaid : Prop := Claim7.holds Tryz.pinned (.plain (OpenSpec.upto sleepSafeSpec)) sleepSafeUptoCard

/-- THE SECOND FORM's CARD OF 'reveillelaw24.SleepNothing'. -/
def sleepNothingUptoCard : Claim7 := { stood := { row := sleepNothingUptoRow, standIns := [], harness := (true, "a3f6f53a7e4c915eb92860b9232efc17b1e120ed53a81b365404f79b5cf744b4"), looks := false }, kinds := [], alts := [], laidByText := true, laidKinds := [.data, .pinned], laidTests := true, laidLooks := .later }
def SleepNothingUptoCardSaid : Prop := Claim7.holds Tryz.pinned (.plain (OpenSpec.upto sleepNothingSpec)) sleepNothingUptoCard

/-- THE SECOND FORM's CARD OF 'reveillelaw24.SleepNone'. -/
def sleepNoneUptoCard : Claim7 := { stood := { row := sleepNoneUptoRow, standIns := [], harness := (true, "a3f6f53a7e4c915eb92860b9232efc17b1e120ed53a81b365404f79b5cf744b4"), looks := false }, kinds := [], alts := [], laidByText := true, laidKinds := [.data, .pinned], laidTests := true, laidLooks := .later }
def SleepNoneUptoCardSaid : Prop := Claim7.holds Tryz.pinned (.plain (OpenSpec.upto sleepNoneSpec)) sleepNoneUptoCard
end Rows
end Go.Proofs.YtfbnfhhmiiahnaaGreatDoor
