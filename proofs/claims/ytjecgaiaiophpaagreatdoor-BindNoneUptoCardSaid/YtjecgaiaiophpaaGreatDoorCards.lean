/-
  DERIVED. GIVEN WITH THE SEED: THE CARDS: each row of YtjecgaiaiophpaaGreatDoorRows.lean that lists a variable, with what it lists TIED to the program's text (the seventh form; the later family's looks); each row that meets fmt, with fmt's text TOLD by the authors' own Lean function (tested against real Go, not proved from fmt's source: count such statements apart). THE CARD IS WHAT COUNTS. Prove the row's statement (the work); the ties are given (YtjecgaiaiophpaaGreatDoorTie.lean); close each card by the builder's one call (the guide's Derived/Test/ToyasCard.lean, 'card_holds'). Laid BY PROGRAM, IN A SANDBOX (cutbox-door.mjs). By AI agents, Wed Nov 11 2026. No macro, syntax, notation, axiom, sorry.
-/
import Derived.Test.YtjecgaiaiophpaaGreatDoorRows
import GoSem.ClaimSeven
namespace Go.Proofs.YtjecgaiaiophpaaGreatDoor
namespace Rows

/-- THE TIED CARD OF 'reveillelaw21.BindLess'. -/
def bindLessCard : Claim7 := { stood := { row := bindLessRow, standIns := [], harness := (true, "8828cd4c6683bc3685edffa37e8eb345a0bc0f080989562deaf95cefacc8b6d0"), looks := false }, kinds := [], alts := [], laidByText := true, laidKinds := [.data, .pinned], laidTests := true, laidLooks := .later }
def BindLessCardSaid : Prop := Claim7.holds Tryz.pinned (.plain (OpenSpec.ofChange bindLessSpec)) bindLessCard

/-- THE TIED CARD OF 'reveillelaw21.BindWorks'. -/
def bindWorksCard : Claim7 := { stood := { row := bindWorksRow, standIns := [], harness := (true, "8828cd4c6683bc3685edffa37e8eb345a0bc0f080989562deaf95cefacc8b6d0"), looks := false }, kinds := [], alts := [], laidByText := true, laidKinds := [.data, .pinned], laidTests := true, laidLooks := .later }
def BindWorksCardSaid : Prop := Claim7.holds Tryz.pinned (.plain (OpenSpec.ofChange bindWorksSpec)) bindWorksCard

/-- THE TIED CARD OF 'reveillelaw21.BindOrder'. -/
def bindOrderCard : Claim7 := { stood := { row := bindOrderRow, standIns := [], harness := (true, "8828cd4c6683bc3685edffa37e8eb345a0bc0f080989562deaf95cefacc8b6d0"), looks := false }, kinds := [], alts := [], laidByText := true, laidKinds := [.data, .pinned], laidTests := true, laidLooks := .later }
def BindOrderCardSaid : Prop := Claim7.holds Tryz.pinned (.plain (OpenSpec.ofChange bindOrderSpec)) bindOrderCard

/-- THE TIED CARD OF 'reveillelaw21.BindLeast'. -/
def bindLeastCard : Claim7 := { stood := { row := bindLeastRow, standIns := [], harness := (true, "8828cd4c6683bc3685edffa37e8eb345a0bc0f080989562deaf95cefacc8b6d0"), looks := false }, kinds := [], alts := [], laidByText := true, laidKinds := [.data, .pinned], laidTests := true, laidLooks := .later }
def BindLeastCardSaid : Prop := Claim7.holds Tryz.pinned (.plain (OpenSpec.ofChange bindLeastSpec)) bindLeastCard

/-- THE TIED CARD OF 'reveillelaw21.BindTells'. -/
def bindTellsCard : Claim7 := { stood := { row := bindTellsRow, standIns := [], harness := (true, "8828cd4c6683bc3685edffa37e8eb345a0bc0f080989562deaf95cefacc8b6d0"), looks := false }, kinds := [], alts := [], laidByText := true, laidKinds := [.data, .pinned], laidTests := true, laidLooks := .later }
def BindTellsCardSaid : Prop := Claim7.holds Tryz.pinned (.plain (OpenSpec.ofChange bindTellsSpec)) bindTellsCard

/-- THE TIED CARD OF 'reveillelaw21.BindSiblings'. -/
def bindSiblingsCard : Claim7 := { stood := { row := bindSiblingsRow, standIns := [], harness := (true, "8828cd4c6683bc3685edffa37e8eb345a0bc0f080989562deaf95cefacc8b6d0"), looks := false }, kinds := [], alts := [], laidByText := true, laidKinds := [.data, .pinned], laidTests := true, laidLooks := .later }
def BindSiblingsCardSaid : Prop := Claim7.holds Tryz.pinned (.plain (OpenSpec.ofChange bindSiblingsSpec)) bindSiblingsCard

/-- THE TIED CARD OF 'reveillelaw21.BindNone'. -/
def bindNoneCard : Claim7 := { stood := { row := bindNoneRow, standIns := [], harness := (true, "8828cd4c6683bc3685edffa37e8eb345a0bc0f080989562deaf95cefacc8b6d0"), looks := false }, kinds := [], alts := [], laidByText := true, laidKinds := [.data, .pinned], laidTests := true, laidLooks := .later }
def BindNoneCardSaid : Prop := Claim7.holds Tryz.pinned (.plain (OpenSpec.ofChange bindNoneSpec)) bindNoneCard

/-- THE SECOND FORM's CARD OF 'reveillelaw21.BindLess'. -/
def bindLessUptoCard : Claim7 := { stood := { row := bindLessUptoRow, standIns := [], harness := (true, "8828cd4c6683bc3685edffa37e8eb345a0bc0f080989562deaf95cefacc8b6d0"), looks := false }, kinds := [], alts := [], laidByText := true, laidKinds := [.data, .pinned], laidTests := true, laidLooks := .later }
def BindLessUptoCardSaid : Prop := Claim7.holds Tryz.pinned (.plain (OpenSpec.upto bindLessSpec)) bindLessUptoCard

/-- THE SECOND FORM's CARD OF 'reveillelaw21.BindWorks'. -/
def bindWorksUptoCard : Claim7 := { stood := { row := bindWorksUptoRow, standIns := [], harness := (true, "8828cd4c6683bc3685edffa37e8eb345a0bc0f080989562deaf95cefacc8b6d0"), looks := false }, kinds := [], alts := [], laidByText := true, laidKinds := [.data, .pinned], laidTests := true, laidLooks := .later }
def BindWorksUptoCardSaid : Prop := Claim7.holds Tryz.pinned (.plain (OpenSpec.upto bindWorksSpec)) bindWorksUptoCard

/-- THE SECOND FORM's CARD OF 'reveillelaw21.BindOrder'. -/
def bindOrderUptoCard : Claim7 := { stood := { row := bindOrderUptoRow, standIns := [], harness := (true, "8828cd4c6683bc3685edffa37e8eb345a0bc0f080989562deaf95cefacc8b6d0"), looks := false }, kinds := [], alts := [], laidByText := true, laidKinds := [.data, .pinned], laidTests := true, laidLooks := .later }
def BindOrderUptoCardSaid : Prop := Claim7.holds Tryz.pinned (.plain (OpenSpec.upto bindOrderSpec)) bindOrderUptoCard

/-- THE SECOND FORM's CARD OF 'reveillelaw21.BindLeast'. -/
def bindLeastUptoCard : Claim7 := { stood := { row := bindLeastUptoRow, standIns := [], harness := (true, "8828cd4c6683bc3685edffa37e8eb345a0bc0f080989562deaf95cefacc8b6d0"), looks := false }, kinds := [], alts := [], laidByText := true, laidKinds := [.data, .pinned], laidTests := true, laidLooks := .later }
def BindLeastUptoCardSaid : Prop := Claim7.holds Tryz.pinned (.plain (OpenSpec.upto bindLeastSpec)) bindLeastUptoCard

/-- THE SECOND FORM's CARD OF 'reveillelaw21.BindTells'. -/
def bindTellsUptoCard : Claim7 := { stood := { row := bindTellsUptoRow, standIns := [], harness := (true, "8828cd4c6683bc3685edffa37e8eb345a0bc0f080989562deaf95cefacc8b6d0"), looks := false }, kinds := [], alts := [], laidByText := true, laidKinds := [.data, .pinned], laidTests := true, laidLooks := .later }
def BindTellsUptoCardSaid : Prop := Claim7.holds Tryz.pinned (.plain (OpenSpec.upto bindTellsSpec)) bindTellsUptoCard

/-- THE SECOND FORM's CARD OF 'reveillelaw21.BindSiblings'. -/
def bindSiblingsUptoCard : Claim7 := { stood := { row := bindSiblingsUptoRow, standIns := [], harness := (true, "8828cd4c6683bc3685edffa37e8eb345a0bc0f080989562deaf95cefacc8b6d0"), looks := false }, kinds := [], alts := [], laidByText := true, laidKinds := [.data, .pinned], laidTests := true, laidLooks := .later }
def BindSiblingsUptoCardSaid : Prop := Claim7.holds Tryz.pinned (.plain (OpenSpec.upto bindSiblingsSpec)) bindSiblingsUptoCard

/-- THE SECOND FORM's CARD OF 'reveillelaw21.BindNone'. -/
def bindNoneUptoCard : Claim7 := { stood := { row := bindNoneUptoRow, standIns := [], harness := (true, "8828cd4c6683bc3685edffa37e8eb345a0bc0f080989562deaf95cefacc8b6d0"), looks := false }, kinds := [], alts := [], laidByText := true, laidKinds := [.data, .pinned], laidTests := true, laidLooks := .later }
def BindNoneUptoCardSaid : Prop := Claim7.holds Tryz.pinned (.plain (OpenSpec.upto bindNoneSpec)) bindNoneUptoCard
end Rows
end Go.Proofs.YtjecgaiaiophpaaGreatDoor
