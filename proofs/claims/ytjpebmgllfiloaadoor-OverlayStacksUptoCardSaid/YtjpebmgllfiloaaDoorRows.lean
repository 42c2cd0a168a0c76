/-
  NARROWER THAN 'FOR EVERY INPUT', by the rows' own cells (each row's printed sentence says how): OverlayLays: laid · OverlayStays: laid · OverlayBeside: laid · OverlayTaken: laid · OverlayStacks: laid · OverlayNames: laid.
  DERIVED. THE GIVEN ROWS OF THIS SEAT. 6 by the template 'for every input the law returns true; each argument reads behind the call as it read before'; 0 by the template 'total and deterministic' (their statements: YtjpebmgllfiloaaDoorTotals.lean).
  GIVEN WITH THE SEED: the statements are not yours to turn. If you find one false, say at which input.
  Laid BY PROGRAM, IN A SANDBOX (cutbox-rows.mjs): the forced cells as the released guide's own fill.sh prints them over the translation c2cdc6a9013bf201… (all of the seat's roots in one cut). By AI agents, Wed Nov 11 2026. No macro, syntax, notation, axiom, sorry.
-/
import Derived.Test.YtjpebmgllfiloaaDoorChecked
import GoSem.PinnedTables
import GoSem.Claim
import GoSem.ClaimJoined
import GoSem.ClaimMapViews
import Derived.JoinedTies
import Derived.KernelRfl
namespace Go.Proofs.YtjpebmgllfiloaaDoor
/- THE CELL 'sum', in the pinned program and in every row, IS THE sha256 OF THE DUMP (.gsa) THAT YtjpebmgllfiloaaDoorProg.lean LOADS. Nothing in Lean hashes anything: it is a label: what it is worth is what the hold of that sum in a sandbox is worth. -/
noncomputable def Tryd.pinned : Pinned := { name := "ytjpebmgllfiloaadoor", sum := "c2cdc6a9013bf2017b6ef872166b722bf5c51b37bc5b1ed66a69344304dc1abf", checked := Tryd.checked }
namespace Rows
def none {H : Type} : Left H := { results := [], args := [] }

/- WHAT THE LISTED PACKAGE-LEVEL VARIABLES READ AS WHEN THE CALL BEGINS. Each datum BY PROGRAM (the guide's laid-datum.mjs) off the statement by which the dump's own 'gosem.cut.vars' lays the variable. In a bare row this is a premise. The card (YtjpebmgllfiloaaDoorCards.lean) ties it to the program's text. -/
def laid_unicode_utf8_acceptRanges {H : Type} : DataW H := .agg [.agg [.lit (.int .u8 128), .lit (.int .u8 191)], .agg [.lit (.int .u8 160), .lit (.int .u8 191)], .agg [.lit (.int .u8 128), .lit (.int .u8 159)], .agg [.lit (.int .u8 144), .lit (.int .u8 191)], .agg [.lit (.int .u8 128), .lit (.int .u8 143)], .agg [.lit (.int .u8 0), .lit (.int .u8 0)], .agg [.lit (.int .u8 0), .lit (.int .u8 0)], .agg [.lit (.int .u8 0), .lit (.int .u8 0)], .agg [.lit (.int .u8 0), .lit (.int .u8 0)], .agg [.lit (.int .u8 0), .lit (.int .u8 0)], .agg [.lit (.int .u8 0), .lit (.int .u8 0)], .agg [.lit (.int .u8 0), .lit (.int .u8 0)], .agg [.lit (.int .u8 0), .lit (.int .u8 0)], .agg [.lit (.int .u8 0), .lit (.int .u8 0)], .agg [.lit (.int .u8 0), .lit (.int .u8 0)], .agg [.lit (.int .u8 0), .lit (.int .u8 0)]]
/-- One of Go's own tables, pinned by name: the form's constant. -/
def laid_unicode_utf8_first : DataW Unit := Go.Pinned.utf8First

/-- 'reveillelaw05.OverlayLays': WHATEVER THE INPUT: true; the input reads as it did. -/
def overlayLaysSpec : ChangeSpec := { name := "overlayLays", fn := fun _ => fun
  | [d1, d2] => { results := [.lit (.bool true)], args := [d1, d2] }
  | _ => none }
def overlayLaysRow : OpenClaim := { program := "ytjpebmgllfiloaadoor", sum := "c2cdc6a9013bf2017b6ef872166b722bf5c51b37bc5b1ed66a69344304dc1abf", func := "reveille/reveillelaw05.OverlayLays", spec := "overlayLays", inPlace := ["internal/bytealg.IndexByteString", "internal/bytealg.CountString", "internal/bytealg.IndexString"], unfollowed := true, recurses := true, named := ["unicode/utf8.first", "unicode/utf8.acceptRanges", "internal/bytealg.MaxLen"], plainKeys := false, apart := false, laid := [("unicode/utf8.acceptRanges", laid_unicode_utf8_acceptRanges), ("unicode/utf8.first", laid_unicode_utf8_first)] }
def OverlayLaysSaid : Prop := overlayLaysRow.holds Tryd.pinned (OpenSpec.ofChange overlayLaysSpec)

/-- ITS FALSE NEIGHBOUR: 'it returns false'. Refute it at one input. -/
def overlayLaysWrong : ChangeSpec := { name := "overlayLays", fn := fun _ => fun
  | [d1, d2] => { results := [.lit (.bool false)], args := [d1, d2] }
  | _ => none }
def OverlayLaysWrongFalsely : Prop := overlayLaysRow.holds Tryd.pinned (OpenSpec.ofChange overlayLaysWrong)

/-- 'reveillelaw05.OverlayStays': WHATEVER THE INPUT: true; the input reads as it did. -/
def overlayStaysSpec : ChangeSpec := { name := "overlayStays", fn := fun _ => fun
  | [d1, d2] => { results := [.lit (.bool true)], args := [d1, d2] }
  | _ => none }
def overlayStaysRow : OpenClaim := { program := "ytjpebmgllfiloaadoor", sum := "c2cdc6a9013bf2017b6ef872166b722bf5c51b37bc5b1ed66a69344304dc1abf", func := "reveille/reveillelaw05.OverlayStays", spec := "overlayStays", inPlace := ["internal/bytealg.IndexByteString", "internal/bytealg.CountString", "internal/bytealg.IndexString"], unfollowed := true, recurses := true, named := ["unicode/utf8.first", "unicode/utf8.acceptRanges", "internal/bytealg.MaxLen"], plainKeys := false, apart := false, laid := [("unicode/utf8.acceptRanges", laid_unicode_utf8_acceptRanges), ("unicode/utf8.first", laid_unicode_utf8_first)] }
def OverlayStaysSaid : Prop := overlayStaysRow.holds Tryd.pinned (OpenSpec.ofChange overlayStaysSpec)

/-- ITS FALSE NEIGHBOUR: 'it returns false'. Refute it at one input. -/
def overlayStaysWrong : ChangeSpec := { name := "overlayStays", fn := fun _ => fun
  | [d1, d2] => { results := [.lit (.bool false)], args := [d1, d2] }
  | _ => none }
def OverlayStaysWrongFalsely : Prop := overlayStaysRow.holds Tryd.pinned (OpenSpec.ofChange overlayStaysWrong)

/-- 'reveillelaw05.OverlayBeside': WHATEVER THE INPUT: true; the input reads as it did. -/
def overlayBesideSpec : ChangeSpec := { name := "overlayBeside", fn := fun _ => fun
  | [d1, d2, d3] => { results := [.lit (.bool true)], args := [d1, d2, d3] }
  | _ => none }
def overlayBesideRow : OpenClaim := { program := "ytjpebmgllfiloaadoor", sum := "c2cdc6a9013bf2017b6ef872166b722bf5c51b37bc5b1ed66a69344304dc1abf", func := "reveille/reveillelaw05.OverlayBeside", spec := "overlayBeside", inPlace := ["internal/bytealg.IndexByteString", "internal/bytealg.CountString", "internal/bytealg.IndexString"], unfollowed := true, recurses := true, named := ["unicode/utf8.first", "unicode/utf8.acceptRanges", "internal/bytealg.MaxLen"], plainKeys := false, apart := false, laid := [("unicode/utf8.acceptRanges", laid_unicode_utf8_acceptRanges), ("unicode/utf8.first", laid_unicode_utf8_first)] }
def OverlayBesideSaid : Prop := overlayBesideRow.holds Tryd.pinned (OpenSpec.ofChange overlayBesideSpec)

/-- ITS FALSE NEIGHBOUR: 'it returns false'. Refute it at one input. -/
def overlayBesideWrong : ChangeSpec := { name := "overlayBeside", fn := fun _ => fun
  | [d1, d2, d3] => { results := [.lit (.bool false)], args := [d1, d2, d3] }
  | _ => none }
def OverlayBesideWrongFalsely : Prop := overlayBesideRow.holds Tryd.pinned (OpenSpec.ofChange overlayBesideWrong)

/-- 'reveillelaw05.OverlayTaken': WHATEVER THE INPUT: true; the input reads as it did. -/
def overlayTakenSpec : ChangeSpec := { name := "overlayTaken", fn := fun _ => fun
  | [d1, d2, d3] => { results := [.lit (.bool true)], args := [d1, d2, d3] }
  | _ => none }
def overlayTakenRow : OpenClaim := { program := "ytjpebmgllfiloaadoor", sum := "c2cdc6a9013bf2017b6ef872166b722bf5c51b37bc5b1ed66a69344304dc1abf", func := "reveille/reveillelaw05.OverlayTaken", spec := "overlayTaken", inPlace := ["internal/bytealg.IndexByteString", "internal/bytealg.CountString", "internal/bytealg.IndexString"], unfollowed := true, recurses := true, named := ["unicode/utf8.first", "unicode/utf8.acceptRanges", "internal/bytealg.MaxLen"], plainKeys := false, apart := false, laid := [("unicode/utf8.acceptRanges", laid_unicode_utf8_acceptRanges), ("unicode/utf8.first", laid_unicode_utf8_first)] }
def OverlayTakenSaid : Prop := overlayTakenRow.holds Tryd.pinned (OpenSpec.ofChange overlayTakenSpec)

/-- ITS FALSE NEIGHBOUR: 'it returns false'. Refute it at one input. -/
def overlayTakenWrong : ChangeSpec := { name := "overlayTaken", fn := fun _ => fun
  | [d1, d2, d3] => { results := [.lit (.bool false)], args := [d1, d2, d3] }
  | _ => none }
def OverlayTakenWrongFalsely : Prop := overlayTakenRow.holds Tryd.pinned (OpenSpec.ofChange overlayTakenWrong)

/-- 'reveillelaw05.OverlayStacks': WHATEVER THE INPUT: true; the input reads as it did. -/
def overlayStacksSpec : ChangeSpec := { name := "overlayStacks", fn := fun _ => fun
  | [d1, d2] => { results := [.lit (.bool true)], args := [d1, d2] }
  | _ => none }
def overlayStacksRow : OpenClaim := { program := "ytjpebmgllfiloaadoor", sum := "c2cdc6a9013bf2017b6ef872166b722bf5c51b37bc5b1ed66a69344304dc1abf", func := "reveille/reveillelaw05.OverlayStacks", spec := "overlayStacks", inPlace := ["internal/bytealg.IndexByteString", "internal/bytealg.CountString", "internal/bytealg.IndexString"], unfollowed := true, recurses := true, named := ["unicode/utf8.first", "unicode/utf8.acceptRanges", "internal/bytealg.MaxLen"], plainKeys := false, apart := false, laid := [("unicode/utf8.acceptRanges", laid_unicode_utf8_acceptRanges), ("unicode/utf8.first", laid_unicode_utf8_first)] }
def OverlayStacksSaid : Prop := overlayStacksRow.holds Tryd.pinned (OpenSpec.ofChange overlayStacksSpec)

/-- ITS FALSE NEIGHBOUR: 'it returns false'. Refute it at one input. -/
def overlayStacksWrong : ChangeSpec := { name := "overlayStacks", fn := fun _ => fun
  | [d1, d2] => { results := [.lit (.bool false)], args := [d1, d2] }
  | _ => none }
def OverlayStacksWrongFalsely : Prop := overlayStacksRow.holds Tryd.pinned (OpenSpec.ofChange overlayStacksWrong)

/-- 'reveillelaw05.OverlayNames': WHATEVER THE INPUT: true; the input reads as it did. -/
def overlayNamesSpec : ChangeSpec := { name := "overlayNames", fn := fun _ => fun
  | [] => { results := [.lit (.bool true)], args := [] }
  | _ => none }
def overlayNamesRow : OpenClaim := { program := "ytjpebmgllfiloaadoor", sum := "c2cdc6a9013bf2017b6ef872166b722bf5c51b37bc5b1ed66a69344304dc1abf", func := "reveille/reveillelaw05.OverlayNames", spec := "overlayNames", inPlace := ["internal/bytealg.IndexByteString", "internal/bytealg.CountString", "internal/bytealg.IndexString"], unfollowed := true, recurses := true, named := ["unicode/utf8.first", "unicode/utf8.acceptRanges", "internal/bytealg.MaxLen"], plainKeys := false, apart := false, laid := [("unicode/utf8.acceptRanges", laid_unicode_utf8_acceptRanges), ("unicode/utf8.first", laid_unicode_utf8_first)] }
def OverlayNamesSaid : Prop := overlayNamesRow.holds Tryd.pinned (OpenSpec.ofChange overlayNamesSpec)

/-- ITS FALSE NEIGHBOUR: 'it returns false'. Refute it at one input. -/
def overlayNamesWrong : ChangeSpec := { name := "overlayNames", fn := fun _ => fun
  | [] => { results := [.lit (.bool false)], args := [] }
  | _ => none }
def OverlayNamesWrongFalsely : Prop := overlayNamesRow.holds Tryd.pinned (OpenSpec.ofChange overlayNamesWrong)

/- THE SECOND FORM. 'bulk': how many values and letters a reading holds, each counted each time it is reached (what is shared counts as often as it is met; a slice's spare places count too). A statement '..UptoSaid' is the law's where the arguments, and the package variables that the reading takes, are together of bulk at most 1048576: NARROWER than '..Said'. Prove '..Said' where nothing that the law and all that it calls make is longer than what came in: it says more and counts as full. Else prove '..UptoSaid'. A law counts once. -/
mutual
def uptoBulk {H : Type} : DataW H → Nat
  | .lit (.string bytes) => bytes.length + 1
  | .lit _ => 1
  | .nil => 1
  | .ptr d => uptoBulk d + 1
  | .slice elems spare => uptoBulkAll elems + uptoBulkAll spare + 1
  | .agg parts => uptoBulkAll parts + 1
  | .iface _ d => uptoBulk d + 1
  | .map entries => uptoBulkEntries entries + 1
  | .held _ => 1
def uptoBulkAll {H : Type} : List (DataW H) → Nat
  | [] => 0
  | d :: r => uptoBulk d + uptoBulkAll r
def uptoBulkEntries {H : Type} : List (Lit × DataW H) → Nat
  | [] => 0
  | x :: r => uptoBulkEntry x + uptoBulkEntries r
def uptoBulkEntry {H : Type} : Lit × DataW H → Nat
  | (.string bytes, d) => bytes.length + uptoBulk d + 1
  | (_, d) => uptoBulk d + 1
 end
def uptoSmall : (H : Type) → List (DataW H) → Bool := fun _ ds => decide (uptoBulkAll ds ≤ 1048576)
def OpenSpec.upto (s : _root_.Go.ChangeSpec) : _root_.Go.OpenSpec := { _root_.Go.OpenSpec.ofChange s with cond := some uptoSmall }

/-- 'reveillelaw05.OverlayLays', WHERE WHAT IT READS IS OF BULK AT MOST 1048576: true; the input reads as it did. -/
def overlayLaysUptoRow : OpenClaim := { program := "ytjpebmgllfiloaadoor", sum := "c2cdc6a9013bf2017b6ef872166b722bf5c51b37bc5b1ed66a69344304dc1abf", func := "reveille/reveillelaw05.OverlayLays", spec := "overlayLays", inPlace := ["internal/bytealg.IndexByteString", "internal/bytealg.CountString", "internal/bytealg.IndexString"], unfollowed := true, recurses := true, named := ["unicode/utf8.first", "unicode/utf8.acceptRanges", "internal/bytealg.MaxLen"], plainKeys := false, apart := false, laid := [("unicode/utf8.acceptRanges", laid_unicode_utf8_acceptRanges), ("unicode/utf8.first", laid_unicode_utf8_first)], narrowed := true }
def OverlayLaysUptoSaid : Prop := overlayLaysUptoRow.holds Tryd.pinned (OpenSpec.upto overlayLaysSpec)

/-- 'reveillelaw05.OverlayStays', WHERE WHAT IT READS IS OF BULK AT MOST 1048576: true; the input reads as it did. -/
def overlayStaysUptoRow : OpenClaim := { program := "ytjpebmgllfiloaadoor", sum := "c2cdc6a9013bf2017b6ef872166b722bf5c51b37bc5b1ed66a69344304dc1abf", func := "reveille/reveillelaw05.OverlayStays", spec := "overlayStays", inPlace := ["internal/bytealg.IndexByteString", "internal/bytealg.CountString", "internal/bytealg.IndexString"], unfollowed := true, recurses := true, named := ["unicode/utf8.first", "unicode/utf8.acceptRanges", "internal/bytealg.MaxLen"], plainKeys := false, apart := false, laid := [("unicode/utf8.acceptRanges", laid_unicode_utf8_acceptRanges), ("unicode/utf8.first", laid_unicode_utf8_first)], narrowed := true }
def OverlayStaysUptoSaid : Prop := overlayStaysUptoRow.holds Tryd.pinned (OpenSpec.upto overlayStaysSpec)

/-- 'reveillelaw05.OverlayBeside', WHERE WHAT IT READS IS OF BULK AT MOST 1048576: true; the input reads as it did. -/
def overlayBesideUptoRow : OpenClaim := { program := "ytjpebmgllfiloaadoor", sum := "c2cdc6a9013bf2017b6ef872166b722bf5c51b37bc5b1ed66a69344304dc1abf", func := "reveille/reveillelaw05.OverlayBeside", spec := "overlayBeside", inPlace := ["internal/bytealg.IndexByteString", "internal/bytealg.CountString", "internal/bytealg.IndexString"], unfollowed := true, recurses := true, named := ["unicode/utf8.first", "unicode/utf8.acceptRanges", "internal/bytealg.MaxLen"], plainKeys := false, apart := false, laid := [("unicode/utf8.acceptRanges", laid_unicode_utf8_acceptRanges), ("unicode/utf8.first", laid_unicode_utf8_first)], narrowed := true }
def OverlayBesideUptoSaid : Prop := overlayBesideUptoRow.holds Tryd.pinned (OpenSpec.upto overlayBesideSpec)

/-- 'reveillelaw05.OverlayTaken', WHERE WHAT IT READS IS OF BULK AT MOST 1048576: true; the input reads as it did. -/
def overlayTakenUptoRow : OpenClaim := { program := "ytjpebmgllfiloaadoor", sum := "c2cdc6a9013bf2017b6ef872166b722bf5c51b37bc5b1ed66a69344304dc1abf", func := "reveille/reveillelaw05.OverlayTaken", spec := "overlayTaken", inPlace := ["internal/bytealg.IndexByteString", "internal/bytealg.CountString", "internal/bytealg.IndexString"], unfollowed := true, recurses := true, named := ["unicode/utf8.first", "unicode/utf8.acceptRanges", "internal/bytealg.MaxLen"], plainKeys := false, apart := false, laid := [("unicode/utf8.acceptRanges", laid_unicode_utf8_acceptRanges), ("unicode/utf8.first", laid_unicode_utf8_first)], narrowed := true }
def OverlayTakenUptoSaid : Prop := overlayTakenUptoRow.holds Tryd.pinned (OpenSpec.upto overlayTakenSpec)

/-- 'reveillelaw05.OverlayStacks', WHERE WHAT IT READS IS OF BULK AT MOST 1048576: true; the input reads as it did. -/
def overlayStacksUptoRow : OpenClaim := { program := "ytjpebmgllfiloaadoor", sum := "c2cdc6a9013bf2017b6ef872166b722bf5c51b37bc5b1ed66a69344304dc1abf", func := "reveille/reveillelaw05.OverlayStacks", spec := "overlayStacks", inPlace := ["internal/bytealg.IndexByteString", "internal/bytealg.CountString", "internal/bytealg.IndexString"], unfollowed := true, recurses := true, named := ["unicode/utf8.first", "unicode/utf8.acceptRanges", "internal/bytealg.MaxLen"], plainKeys := false, apart := false, laid := [("unicode/utf8.acceptRanges", laid_unicode_utf8_acceptRanges), ("unicode/utf8.first", laid_unicode_utf8_first)], narrowed := true }
def OverlayStacksUptoSaid : Prop := overlayStacksUptoRow.holds Tryd.pinned (OpenSpec.upto overlayStacksSpec)

/-- 'reveillelaw05.OverlayNames', WHERE WHAT IT READS IS OF BULK AT MOST 1048576: true; the input reads as it did. -/
def overlayNamesUptoRow : OpenClaim := { program := "ytjpebmgllfiloaadoor", sum := "c2cdc6a9013bf2017b6ef872166b722bf5c51b37bc5b1ed66a69344304dc1abf", func := "reveille/reveillelaw05.OverlayNames", spec := "overlayNames", inPlace := ["internal/bytealg.IndexByteString", "internal/bytealg.CountString", "internal/bytealg.IndexString"], unfollowed := true, recurses := true, named := ["unicode/utf8.first", "unicode/utf8.acceptRanges", "internal/bytealg.MaxLen"], plainKeys := false, apart := false, laid := [("unicode/utf8.acceptRanges", laid_unicode_utf8_acceptRanges), ("unicode/utf8.first", laid_unicode_utf8_first)], narrowed := true }
def OverlayNamesUptoSaid : Prop := overlayNamesUptoRow.holds Tryd.pinned (OpenSpec.upto overlayNamesSpec)

end Rows
end Go.Proofs.YtjpebmgllfiloaaDoor
