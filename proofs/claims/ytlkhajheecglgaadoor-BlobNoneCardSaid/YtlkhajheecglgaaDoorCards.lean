/-
  DERIVED. GIVEN WITH THE SEED: THE CARDS: each row of YtlkhajheecglgaaDoorRows.lean that lists a variable, with what it lists TIED to the program's text (the seventh form; the later family's looks); each row that meets fmt, with fmt's text TOLD by the authors' own Lean function (tested against real Go, not proved from fmt's source: count such statements apart). THE CARD IS WHAT COUNTS. Prove the row's statement (the work); the ties are given (YtlkhajheecglgaaDoorTie.lean); close each card by the builder's one call (the guide's Derived/Test/ToyasCard.lean, 'card_holds'). Laid BY PROGRAM, IN A SANDBOX (cutbox-door.mjs). By AI agents, Wed Nov 11 2026. No macro, syntax, notation, axiom, sorry.
-/
import Derived.Test.YtlkhajheecglgaaDoorRows
import GoSem.ClaimSeven
namespace Go.Proofs.YtlkhajheecglgaaDoor
namespace Rows

/-- THE TIED CARD OF 'reveillelaw03.BlobOne'. -/
def blobOneCard : Claim7 := { stood := { row := blobOneRow, standIns := [], harness := (true, "d9f851e74f7763b11462952baaa0a2b2a692505bdc6c81607010bf9dbcf8b418"), looks := false }, kinds := [], alts := [], laidByText := true, laidKinds := [.data, .pinned], laidTests := true, laidLooks := .later }
def BlobOneCardSaid : Prop := Claim7.holds Tryd.pinned (.plain (OpenSpec.ofChange blobOneSpec)) blobOneCard

/-- THE TIED CARD OF 'reveillelaw03.BlobTells'. -/
def blobTellsCard : Claim7 := { stood := { row := blobTellsRow, standIns := [], harness := (true, "d9f851e74f7763b11462952baaa0a2b2a692505bdc6c81607010bf9dbcf8b418"), looks := false }, kinds := [], alts := [], laidByText := true, laidKinds := [.data, .pinned], laidTests := true, laidLooks := .later }
def BlobTellsCardSaid : Prop := Claim7.holds Tryd.pinned (.plain (OpenSpec.ofChange blobTellsSpec)) blobTellsCard

/-- THE TIED CARD OF 'reveillelaw03.BlobReads'. -/
def blobReadsCard : Claim7 := { stood := { row := blobReadsRow, standIns := [], harness := (true, "d9f851e74f7763b11462952baaa0a2b2a692505bdc6c81607010bf9dbcf8b418"), looks := false }, kinds := [], alts := [], laidByText := true, laidKinds := [.data, .pinned], laidTests := true, laidLooks := .later }
def BlobReadsCardSaid : Prop := Claim7.holds Tryd.pinned (.plain (OpenSpec.ofChange blobReadsSpec)) blobReadsCard

/-- THE TIED CARD OF 'reveillelaw03.BlobBack'. -/
def blobBackCard : Claim7 := { stood := { row := blobBackRow, standIns := [], harness := (true, "d9f851e74f7763b11462952baaa0a2b2a692505bdc6c81607010bf9dbcf8b418"), looks := false }, kinds := [], alts := [], laidByText := true, laidKinds := [.data, .pinned], laidTests := true, laidLooks := .later }
def BlobBackCardSaid : Prop := Claim7.holds Tryd.pinned (.plain (OpenSpec.ofChange blobBackSpec)) blobBackCard

/-- THE TIED CARD OF 'reveillelaw03.BlobNone'. -/
def blobNoneCard : Claim7 := { stood := { row := blobNoneRow, standIns := [], harness := (true, "d9f851e74f7763b11462952baaa0a2b2a692505bdc6c81607010bf9dbcf8b418"), looks := false }, kinds := [], alts := [], laidByText := true, laidKinds := [.data, .pinned], laidTests := true, laidLooks := .later }
def BlobNoneCardSaid : Prop := Claim7.holds Tryd.pinned (.plain (OpenSpec.ofChange blobNoneSpec)) blobNoneCard

/-- THE SECOND FORM's CARD OF 'reveillelaw03.BlobOne'. -/
def blobOneUptoCard : Claim7 := { stood := { row := blobOneUptoRow, standIns := [], harness := (true, "d9f851e74f7763b11462952baaa0a2b2a692505bdc6c81607010bf9dbcf8b418"), looks := false }, kinds := [], alts := [], laidByText := true, laidKinds := [.data, .pinned], laidTests := true, laidLooks := .later }
def BlobOneUptoCardSaid : Prop := Claim7.holds Tryd.pinned (.plain (OpenSpec.upto blobOneSpec)) blobOneUptoCard

/-- THE SECOND FORM's CARD OF 'reveillelaw03.BlobTells'. -/
def blobTellsUptoCard : Claim7 := { stood := { row := blobTellsUptoRow, standIns := [], harness := (true, "d9f851e74f7763b11462952baaa0a2b2a692505bdc6c81607010bf9dbcf8b418"), looks := false }, kinds := [], alts := [], laidByText := true, laidKinds := [.data, .pinned], laidTests := true, laidLooks := .later }
def BlobTellsUptoCardSaid : Prop := Claim7.holds Tryd.pinned (.plain (OpenSpec.upto blobTellsSpec)) blobTellsUptoCard

/-- THE SECOND FORM's CARD OF 'reveillelaw03.BlobReads'. -/
def blobReadsUptoCard : Claim7 := { stood := { row := blobReadsUptoRow, standIns := [], harness := (true, "d9f851e74f7763b11462952baaa0a2b2a692505bdc6c81607010bf9dbcf8b418"), looks := false }, kinds := [], alts := [], laidByText := true, laidKinds := [.data, .pinned], laidTests := true, laidLooks := .later }
def BlobReadsUptoCardSaid : Prop := Claim7.holds Tryd.pinned (.plain (OpenSpec.upto blobReadsSpec)) blobReadsUptoCard

/-- THE SECOND FORM's CARD OF 'reveillelaw03.BlobBack'. -/
def blobBackUptoCard : Claim7 := { stood := { row := blobBackUptoRow, standIns := [], harness := (true, "d9f851e74f7763b11462952baaa0a2b2a692505bdc6c81607010bf9dbcf8b418"), looks := false }, kinds := [], alts := [], laidByText := true, laidKinds := [.data, .pinned], laidTests := true, laidLooks := .later }
def BlobBackUptoCardSaid : Prop := Claim7.holds Tryd.pinned (.plain (OpenSpec.upto blobBackSpec)) blobBackUptoCard

/-- THE SECOND FORM's CARD OF 'reveillelaw03.BlobNone'. -/
def blobNoneUptoCard : Claim7 := { stood := { row := blobNoneUptoRow, standIns := [], harness := (true, "d9f851e74f7763b11462952baaa0a2b2a692505bdc6c81607010bf9dbcf8b418"), looks := false }, kinds := [], alts := [], laidByText := true, laidKinds := [.data, .pinned], laidTests := true, laidLooks := .later }
def BlobNoneUptoCardSaid : Prop := Claim7.holds Tryd.pinned (.plain (OpenSpec.upto blobNoneSpec)) blobNoneUptoCard
end Rows
end Go.Proofs.YtlkhajheecglgaaDoor
