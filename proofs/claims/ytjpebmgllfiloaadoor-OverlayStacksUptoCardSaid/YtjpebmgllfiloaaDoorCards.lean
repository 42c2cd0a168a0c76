/-
  DERIVED. GIVEN WITH THE SEED: THE CARDS: each row of YtjpebmgllfiloaaDoorRows.lean that lists a variable, with what it lists TIED to the program's text (the seventh form; the later family's looks); each row that meets fmt, with fmt's text TOLD by the authors' own Lean function (tested against real Go, not proved from fmt's source: count such statements apart). THE CARD IS WHAT COUNTS. Prove the row's statement (the work); the ties are given (YtjpebmgllfiloaaDoorTie.lean); close each card by the builder's one call (the guide's Derived/Test/ToyasCard.lean, 'card_holds'). Laid BY PROGRAM, IN A SANDBOX (cutbox-door.mjs). By AI agents, Wed Nov 11 2026. No macro, syntax, notation, axiom, sorry.
-/
import Derived.Test.YtjpebmgllfiloaaDoorRows
import GoSem.ClaimSeven
namespace Go.Proofs.YtjpebmgllfiloaaDoor
namespace Rows

/-- THE TIED CARD OF 'reveillelaw05.OverlayLays'. -/
def overlayLaysCard : Claim7 := { stood := { row := overlayLaysRow, standIns := [], harness := (true, "eeec6234686bfb480a2f2a5179d2fea5a5c71488b21fe9a153a48488b6469584"), looks := false }, kinds := [], alts := [], laidByText := true, laidKinds := [.data, .pinned], laidTests := true, laidLooks := .later }
def OverlayLaysCardSaid : Prop := Claim7.holds Tryd.pinned (.plain (OpenSpec.ofChange overlayLaysSpec)) overlayLaysCard

/-- THE TIED CARD OF 'reveillelaw05.OverlayStays'. -/
def overlayStaysCard : Claim7 := { stood := { row := overlayStaysRow, standIns := [], harness := (true, "eeec6234686bfb480a2f2a5179d2fea5a5c71488b21fe9a153a48488b6469584"), looks := false }, kinds := [], alts := [], laidByText := true, laidKinds := [.data, .pinned], laidTests := true, laidLooks := .later }
def OverlayStaysCardSaid : Prop := Claim7.holds Tryd.pinned (.plain (OpenSpec.ofChange overlayStaysSpec)) overlayStaysCard

/-- THE TIED CARD OF 'reveillelaw05.OverlayBeside'. -/
def overlayBesideCard : Claim7 := { stood := { row := overlayBesideRow, standIns := [], harness := (true, "eeec6234686bfb480a2f2a5179d2fea5a5c71488b21fe9a153a48488b6469584"), looks := false }, kinds := [], alts := [], laidByText := true, laidKinds := [.data, .pinned], laidTests := true, laidLooks := .later }
def OverlayBesideCardSaid : Prop := Claim7.holds Tryd.pinned (.plain (OpenSpec.ofChange overlayBesideSpec)) overlayBesideCard

/-- THE TIED CARD OF 'reveillelaw05.OverlayTaken'. -/
def overlayTakenCard : Claim7 := { stood := { row := overlayTakenRow, standIns := [], harness := (true, "eeec6234686bfb480a2f2a5179d2fea5a5c71488b21fe9a153a48488b6469584"), looks := false }, kinds := [], alts := [], laidByText := true, laidKinds := [.data, .pinned], laidTests := true, laidLooks := .later }
def OverlayTakenCardSaid : Prop := Claim7.holds Tryd.pinned (.plain (OpenSpec.ofChange overlayTakenSpec)) overlayTakenCard

/-- THE TIED CARD OF 'reveillelaw05.OverlayStacks'. -/
def overlayStacksCard : Claim7 := { stood := { row := overlayStacksRow, standIns := [], harness := (true, "eeec6234686bfb480a2f2a5179d2fea5a5c71488b21fe9a153a48488b6469584"), looks := false }, kinds := [], alts := [], laidByText := true, laidKinds := [.data, .pinned], laidTests := true, laidLooks := .later }
def OverlayStacksCardSaid : Prop := Claim7.holds Tryd.pinned (.plain (OpenSpec.ofChange overlayStacksSpec)) overlayStacksCard

/-- THE TIED CARD OF 'reveillelaw05.OverlayNames'. -/
def overlayNamesCard : Claim7 := { stood := { row := overlayNamesRow, standIns := [], harness := (true, "eeec6234686bfb480a2f2a5179d2fea5a5c71488b21fe9a153a48488b6469584"), looks := false }, kinds := [], alts := [], laidByText := true, laidKinds := [.data, .pinned], laidTests := true, laidLooks := .later }
def OverlayNamesCardSaid : Prop := Claim7.holds Tryd.pinned (.plain (OpenSpec.ofChange overlayNamesSpec)) overlayNamesCard

/-- THE SECOND FORM's CARD OF 'reveillelaw05.OverlayLays'. -/
def overlayLaysUptoCard : Claim7 := { stood := { row := overlayLaysUptoRow, standIns := [], harness := (true, "eeec6234686bfb480a2f2a5179d2fea5a5c71488b21fe9a153a48488b6469584"), looks := false }, kinds := [], alts := [], laidByText := true, laidKinds := [.data, .pinned], laidTests := true, laidLooks := .later }
def OverlayLaysUptoCardSaid : Prop := Claim7.holds Tryd.pinned (.plain (OpenSpec.upto overlayLaysSpec)) overlayLaysUptoCard

/-- THE SECOND FORM's CARD OF 'reveillelaw05.OverlayStays'. -/
def overlayStaysUptoCard : Claim7 := { stood := { row := overlayStaysUptoRow, standIns := [], harness := (true, "eeec6234686bfb480a2f2a5179d2fea5a5c71488b21fe9a153a48488b6469584"), looks := false }, kinds := [], alts := [], laidByText := true, laidKinds := [.data, .pinned], laidTests := true, laidLooks := .later }
def OverlayStaysUptoCardSaid : Prop := Claim7.holds Tryd.pinned (.plain (OpenSpec.upto overlayStaysSpec)) overlayStaysUptoCard

/-- THE SECOND FORM's CARD OF 'reveillelaw05.OverlayBeside'. -/
def overlayBesideUptoCard : Claim7 := { stood := { row := overlayBesideUptoRow, standIns := [], harness := (true, "eeec6234686bfb480a2f2a5179d2fea5a5c71488b21fe9a153a48488b6469584"), looks := false }, kinds := [], alts := [], laidByText := true, laidKinds := [.data, .pinned], laidTests := true, laidLooks := .later }
def OverlayBesideUptoCardSaid : Prop := Claim7.holds Tryd.pinned (.plain (OpenSpec.upto overlayBesideSpec)) overlayBesideUptoCard

/-- THE SECOND FORM's CARD OF 'reveillelaw05.OverlayTaken'. -/
def overlayTakenUptoCard : Claim7 := { stood := { row := overlayTakenUptoRow, standIns := [], harness := (true, "eeec6234686bfb480a2f2a5179d2fea5a5c71488b21fe9a153a48488b6469584"), looks := false }, kinds := [], alts := [], laidByText := true, laidKinds := [.data, .pinned], laidTests := true, laidLooks := .later }
def OverlayTakenUptoCardSaid : Prop := Claim7.holds Tryd.pinned (.plain (OpenSpec.upto overlayTakenSpec)) overlayTakenUptoCard

/-- THE SECOND FORM's CARD OF 'reveillelaw05.OverlayStacks'. -/
def overlayStacksUptoCard : Claim7 := { stood := { row := overlayStacksUptoRow, standIns := [], harness := (true, "eeec6234686bfb480a2f2a5179d2fea5a5c71488b21fe9a153a48488b6469584"), looks := false }, kinds := [], alts := [], laidByText := true, laidKinds := [.data, .pinned], laidTests := true, laidLooks := .later }
def OverlayStacksUptoCardSaid : Prop := Claim7.holds Tryd.pinned (.plain (OpenSpec.upto overlayStacksSpec)) overlayStacksUptoCard

/-- THE SECOND FORM's CARD OF 'reveillelaw05.OverlayNames'. -/
def overlayNamesUptoCard : Claim7 := { stood := { row := overlayNamesUptoRow, standIns := [], harness := (true, "eeec6234686bfb480a2f2a5179d2fea5a5c71488b21fe9a153a48488b6469584"), looks := false }, kinds := [], alts := [], laidByText := true, laidKinds := [.data, .pinned], laidTests := true, laidLooks := .later }
def OverlayNamesUptoCardSaid : Prop := Claim7.holds Tryd.pinned (.plain (OpenSpec.upto overlayNamesSpec)) overlayNamesUptoCard
end Rows
end Go.Proofs.YtjpebmgllfiloaaDoor
