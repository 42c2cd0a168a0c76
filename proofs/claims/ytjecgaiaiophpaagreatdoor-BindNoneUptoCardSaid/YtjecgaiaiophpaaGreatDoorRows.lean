/-
  NARROWER THAN 'FOR EVERY INPUT', by the rows' own cells (each row's printed sentence says how): BindLess: laid · BindWorks: laid · BindOrder: laid · BindLeast: laid · BindTells: laid · BindSiblings: laid · BindNone: laid.
  DERIVED. THE GIVEN ROWS OF THIS SEAT. 7 by the template 'for every input the law returns true; each argument reads behind the call as it read before'; 0 by the template 'total and deterministic' (their statements: YtjecgaiaiophpaaGreatDoorTotals.lean).
  GIVEN WITH THE SEED: the statements are not yours to turn. If you find one false, say at which input.
  Laid BY PROGRAM, IN A SANDBOX (cutbox-rows.mjs): the forced cells as the released guide's own fill.sh prints them over the translation 5d78c912022716ac… (all of the seat's roots in one cut). By AI agents, Wed Nov 11 2026. No macro, syntax, notation, axiom, sorry.
-/
import Derived.Test.YtjecgaiaiophpaaGreatDoorChecked
import GoSem.PinnedTables
import GoSem.Claim
import GoSem.ClaimJoined
import GoSem.ClaimMapViews
import Derived.JoinedTies
import Derived.KernelRfl
namespace Go.Proofs.YtjecgaiaiophpaaGreatDoor
/- THE CELL 'sum', in the pinned program and in every row, IS THE sha256 OF THE DUMP (.gsa) THAT YtjecgaiaiophpaaGreatDoorProg.lean LOADS. Nothing in Lean hashes anything: it is a label: what it is worth is what the hold of that sum in a sandbox is worth. -/
noncomputable def Tryz.pinned : Pinned := { name := "ytjecgaiaiophpaagreatdoor", sum := "5d78c912022716ac938eadcab9dc12e203b9f67641aad2b56aa7586ecee1711f", checked := Tryz.checked }
namespace Rows
def none {H : Type} : Left H := { results := [], args := [] }

/- WHAT THE LISTED PACKAGE-LEVEL VARIABLES READ AS WHEN THE CALL BEGINS. Each datum BY PROGRAM (the guide's laid-datum.mjs) off the statement by which the dump's own 'gosem.cut.vars' lays the variable. In a bare row this is a premise. The card (YtjecgaiaiophpaaGreatDoorCards.lean) ties it to the program's text. -/
def laid_unicode_utf8_acceptRanges {H : Type} : DataW H := .agg [.agg [.lit (.int .u8 128), .lit (.int .u8 191)], .agg [.lit (.int .u8 160), .lit (.int .u8 191)], .agg [.lit (.int .u8 128), .lit (.int .u8 159)], .agg [.lit (.int .u8 144), .lit (.int .u8 191)], .agg [.lit (.int .u8 128), .lit (.int .u8 143)], .agg [.lit (.int .u8 0), .lit (.int .u8 0)], .agg [.lit (.int .u8 0), .lit (.int .u8 0)], .agg [.lit (.int .u8 0), .lit (.int .u8 0)], .agg [.lit (.int .u8 0), .lit (.int .u8 0)], .agg [.lit (.int .u8 0), .lit (.int .u8 0)], .agg [.lit (.int .u8 0), .lit (.int .u8 0)], .agg [.lit (.int .u8 0), .lit (.int .u8 0)], .agg [.lit (.int .u8 0), .lit (.int .u8 0)], .agg [.lit (.int .u8 0), .lit (.int .u8 0)], .agg [.lit (.int .u8 0), .lit (.int .u8 0)], .agg [.lit (.int .u8 0), .lit (.int .u8 0)]]
/-- One of Go's own tables, pinned by name: the form's constant. -/
def laid_unicode_utf8_first : DataW Unit := Go.Pinned.utf8First

/-- 'reveillelaw21.BindLess': WHATEVER THE INPUT: true; the input reads as it did. -/
def bindLessSpec : ChangeSpec := { name := "bindLess", fn := fun _ => fun
  | [d1, d2, d3] => { results := [.lit (.bool true)], args := [d1, d2, d3] }
  | _ => none }
def bindLessRow : OpenClaim := { program := "ytjecgaiaiophpaagreatdoor", sum := "5d78c912022716ac938eadcab9dc12e203b9f67641aad2b56aa7586ecee1711f", func := "reveille/reveillelaw21.BindLess", spec := "bindLess", inPlace := ["internal/bytealg.IndexByteString", "internal/bytealg.IndexString", "internal/bytealg.CountString", "internal/abi.NoEscape", "internal/bytealg.MakeNoZero"], unfollowed := true, recurses := true, named := ["unicode/utf8.first", "unicode/utf8.acceptRanges", "internal/bytealg.MaxLen"], plainKeys := false, apart := false, laid := [("unicode/utf8.acceptRanges", laid_unicode_utf8_acceptRanges), ("unicode/utf8.first", laid_unicode_utf8_first)] }
def BindLessSaid : Prop := bindLessRow.holds Tryz.pinned (OpenSpec.ofChange bindLessSpec)

/-- ITS FALSE NEIGHBOUR: 'it returns false'. Refute it at one input. -/
def bindLessWrong : ChangeSpec := { name := "bindLess", fn := fun _ => fun
  | [d1, d2, d3] => { results := [.lit (.bool false)], args := [d1, d2, d3] }
  | _ => none }
def BindLessWrongFalsely : Prop := bindLessRow.holds Tryz.pinned (OpenSpec.ofChange bindLessWrong)

/-- 'reveillelaw21.BindWorks': WHATEVER THE INPUT: true; the input reads as it did. -/
def bindWorksSpec : ChangeSpec := { name := "bindWorks", fn := fun _ => fun
  | [d1, d2] => { results := [.lit (.bool true)], args := [d1, d2] }
  | _ => none }
def bindWorksRow : OpenClaim := { program := "ytjecgaiaiophpaagreatdoor", sum := "5d78c912022716ac938eadcab9dc12e203b9f67641aad2b56aa7586ecee1711f", func := "reveille/reveillelaw21.BindWorks", spec := "bindWorks", inPlace := ["internal/bytealg.IndexByteString", "internal/bytealg.IndexString", "internal/bytealg.CountString", "internal/abi.NoEscape", "internal/bytealg.MakeNoZero"], unfollowed := true, recurses := true, named := ["unicode/utf8.first", "unicode/utf8.acceptRanges", "internal/bytealg.MaxLen"], plainKeys := false, apart := false, laid := [("unicode/utf8.acceptRanges", laid_unicode_utf8_acceptRanges), ("unicode/utf8.first", laid_unicode_utf8_first)] }
def BindWorksSaid : Prop := bindWorksRow.holds Tryz.pinned (OpenSpec.ofChange bindWorksSpec)

/-- ITS FALSE NEIGHBOUR: 'it returns false'. Refute it at one input. -/
def bindWorksWrong : ChangeSpec := { name := "bindWorks", fn := fun _ => fun
  | [d1, d2] => { results := [.lit (.bool false)], args := [d1, d2] }
  | _ => none }
def BindWorksWrongFalsely : Prop := bindWorksRow.holds Tryz.pinned (OpenSpec.ofChange bindWorksWrong)

/-- 'reveillelaw21.BindOrder': WHATEVER THE INPUT: true; the input reads as it did. -/
def bindOrderSpec : ChangeSpec := { name := "bindOrder", fn := fun _ => fun
  | [d1, d2, d3] => { results := [.lit (.bool true)], args := [d1, d2, d3] }
  | _ => none }
def bindOrderRow : OpenClaim := { program := "ytjecgaiaiophpaagreatdoor", sum := "5d78c912022716ac938eadcab9dc12e203b9f67641aad2b56aa7586ecee1711f", func := "reveille/reveillelaw21.BindOrder", spec := "bindOrder", inPlace := ["internal/bytealg.IndexByteString", "internal/bytealg.IndexString", "internal/bytealg.CountString", "internal/abi.NoEscape", "internal/bytealg.MakeNoZero"], unfollowed := true, recurses := true, named := ["unicode/utf8.first", "unicode/utf8.acceptRanges", "internal/bytealg.MaxLen"], plainKeys := false, apart := false, laid := [("unicode/utf8.acceptRanges", laid_unicode_utf8_acceptRanges), ("unicode/utf8.first", laid_unicode_utf8_first)] }
def BindOrderSaid : Prop := bindOrderRow.holds Tryz.pinned (OpenSpec.ofChange bindOrderSpec)

/-- ITS FALSE NEIGHBOUR: 'it returns false'. Refute it at one input. -/
def bindOrderWrong : ChangeSpec := { name := "bindOrder", fn := fun _ => fun
  | [d1, d2, d3] => { results := [.lit (.bool false)], args := [d1, d2, d3] }
  | _ => none }
def BindOrderWrongFalsely : Prop := bindOrderRow.holds Tryz.pinned (OpenSpec.ofChange bindOrderWrong)

/-- 'reveillelaw21.BindLeast': WHATEVER THE INPUT: true; the input reads as it did. -/
def bindLeastSpec : ChangeSpec := { name := "bindLeast", fn := fun _ => fun
  | [d] => { results := [.lit (.bool true)], args := [d] }
  | _ => none }
def bindLeastRow : OpenClaim := { program := "ytjecgaiaiophpaagreatdoor", sum := "5d78c912022716ac938eadcab9dc12e203b9f67641aad2b56aa7586ecee1711f", func := "reveille/reveillelaw21.BindLeast", spec := "bindLeast", inPlace := ["internal/bytealg.IndexByteString", "internal/bytealg.IndexString", "internal/bytealg.CountString", "internal/abi.NoEscape", "internal/bytealg.MakeNoZero"], unfollowed := true, recurses := true, named := ["unicode/utf8.first", "unicode/utf8.acceptRanges", "internal/bytealg.MaxLen"], plainKeys := false, apart := false, laid := [("unicode/utf8.acceptRanges", laid_unicode_utf8_acceptRanges), ("unicode/utf8.first", laid_unicode_utf8_first)] }
def BindLeastSaid : Prop := bindLeastRow.holds Tryz.pinned (OpenSpec.ofChange bindLeastSpec)

/-- ITS FALSE NEIGHBOUR: 'it returns false'. Refute it at one input. -/
def bindLeastWrong : ChangeSpec := { name := "bindLeast", fn := fun _ => fun
  | [d] => { results := [.lit (.bool false)], args := [d] }
  | _ => none }
def BindLeastWrongFalsely : Prop := bindLeastRow.holds Tryz.pinned (OpenSpec.ofChange bindLeastWrong)

/-- 'reveillelaw21.BindTells': WHATEVER THE INPUT: true; the input reads as it did. -/
def bindTellsSpec : ChangeSpec := { name := "bindTells", fn := fun _ => fun
  | [d] => { results := [.lit (.bool true)], args := [d] }
  | _ => none }
def bindTellsRow : OpenClaim := { program := "ytjecgaiaiophpaagreatdoor", sum := "5d78c912022716ac938eadcab9dc12e203b9f67641aad2b56aa7586ecee1711f", func := "reveille/reveillelaw21.BindTells", spec := "bindTells", inPlace := ["internal/bytealg.IndexByteString", "internal/bytealg.IndexString", "internal/bytealg.CountString", "internal/abi.NoEscape", "internal/bytealg.MakeNoZero"], unfollowed := true, recurses := true, named := ["unicode/utf8.first", "unicode/utf8.acceptRanges", "internal/bytealg.MaxLen"], plainKeys := false, apart := false, laid := [("unicode/utf8.acceptRanges", laid_unicode_utf8_acceptRanges), ("unicode/utf8.first", laid_unicode_utf8_first)] }
def BindTellsSaid : Prop := bindTellsRow.holds Tryz.pinned (OpenSpec.ofChange bindTellsSpec)

/-- ITS FALSE NEIGHBOUR: 'it returns false'. Refute it at one input. -/
def bindTellsWrong : ChangeSpec := { name := "bindTells", fn := fun _ => fun
  | [d] => { results := [.lit (.bool false)], args := [d] }
  | _ => none }
def BindTellsWrongFalsely : Prop := bindTellsRow.holds Tryz.pinned (OpenSpec.ofChange bindTellsWrong)

/-- 'reveillelaw21.BindSiblings': WHATEVER THE INPUT: true; the input reads as it did. -/
def bindSiblingsSpec : ChangeSpec := { name := "bindSiblings", fn := fun _ => fun
  | [d] => { results := [.lit (.bool true)], args := [d] }
  | _ => none }
def bindSiblingsRow : OpenClaim := { program := "ytjecgaiaiophpaagreatdoor", sum := "5d78c912022716ac938eadcab9dc12e203b9f67641aad2b56aa7586ecee1711f", func := "reveille/reveillelaw21.BindSiblings", spec := "bindSiblings", inPlace := ["internal/bytealg.IndexByteString", "internal/bytealg.IndexString", "internal/bytealg.CountString", "internal/abi.NoEscape", "internal/bytealg.MakeNoZero", "internal/bytealg.abigen_runtime_cmpstring"], unfollowed := true, recurses := true, named := ["unicode/utf8.first", "unicode/utf8.acceptRanges", "internal/bytealg.MaxLen"], plainKeys := false, apart := false, laid := [("unicode/utf8.acceptRanges", laid_unicode_utf8_acceptRanges), ("unicode/utf8.first", laid_unicode_utf8_first)] }
def BindSiblingsSaid : Prop := bindSiblingsRow.holds Tryz.pinned (OpenSpec.ofChange bindSiblingsSpec)

/-- ITS FALSE NEIGHBOUR: 'it returns false'. Refute it at one input. -/
def bindSiblingsWrong : ChangeSpec := { name := "bindSiblings", fn := fun _ => fun
  | [d] => { results := [.lit (.bool false)], args := [d] }
  | _ => none }
def BindSiblingsWrongFalsely : Prop := bindSiblingsRow.holds Tryz.pinned (OpenSpec.ofChange bindSiblingsWrong)

/-- 'reveillelaw21.BindNone': WHATEVER THE INPUT: true; the input reads as it did. -/
def bindNoneSpec : ChangeSpec := { name := "bindNone", fn := fun _ => fun
  | [] => { results := [.lit (.bool true)], args := [] }
  | _ => none }
def bindNoneRow : OpenClaim := { program := "ytjecgaiaiophpaagreatdoor", sum := "5d78c912022716ac938eadcab9dc12e203b9f67641aad2b56aa7586ecee1711f", func := "reveille/reveillelaw21.BindNone", spec := "bindNone", inPlace := ["internal/bytealg.IndexByteString", "internal/bytealg.IndexString", "internal/bytealg.CountString", "internal/abi.NoEscape", "internal/bytealg.MakeNoZero"], unfollowed := true, recurses := true, named := ["unicode/utf8.first", "unicode/utf8.acceptRanges", "internal/bytealg.MaxLen"], plainKeys := false, apart := false, laid := [("unicode/utf8.acceptRanges", laid_unicode_utf8_acceptRanges), ("unicode/utf8.first", laid_unicode_utf8_first)] }
def BindNoneSaid : Prop := bindNoneRow.holds Tryz.pinned (OpenSpec.ofChange bindNoneSpec)

/-- ITS FALSE NEIGHBOUR: 'it returns false'. Refute it at one input. -/
def bindNoneWrong : ChangeSpec := { name := "bindNone", fn := fun _ => fun
  | [] => { results := [.lit (.bool false)], args := [] }
  | _ => none }
def BindNoneWrongFalsely : Prop := bindNoneRow.holds Tryz.pinned (OpenSpec.ofChange bindNoneWrong)

/- THE SECOND FORM. 'bulk': how many values and letters a reading holds, each counted each time it is reached (what is shared counts as often as it is met; a slice's spare places count too). A statement '..UptoSaid' is the law's where the arguments, and the package variables that the reading takes, are together of bulk at most 1048576: NARROWER than '..Said'. Prove '..Said' where nothing that the law and all that it calls make is longer than what came in: it says more and counts as full. Else prove '..UptoSaid'. A law counts once. -/
mutual
def uptoBulk {H : Type} : DataW H → Nat
  | .lit (.string bytes) => bytes.length + 1
  | .lit _ => 1
  | .nil => 1
  | .ptr d => uptoBulk d + 1
  | .slice elems spare => uptoBulkAll elems + uptoBulkAll spare + 1
  | .agg parts => uptoBulkAll parts + 1
  | .iface _ d => uptoBulk d + 1
  | .map entries => uptoBulkEntries entries + 1
  | .held _ => 1
def uptoBulkAll {H : Type} : List (DataW H) → Nat
  | [] => 0
  | d :: r => uptoBulk d + uptoBulkAll r
def uptoBulkEntries {H : Type} : List (Lit × DataW H) → Nat
  | [] => 0
  | x :: r => uptoBulkEntry x + uptoBulkEntries r
def uptoBulkEntry {H : Type} : Lit × DataW H → Nat
  | (.string bytes, d) => bytes.length + uptoBulk d + 1
  | (_, d) => uptoBulk d + 1
 end
def uptoSmall : (H : Type) → List (DataW H) → Bool := fun _ ds => decide (uptoBulkAll ds ≤ 1048576)
def OpenSpec.upto (s : _root_.Go.ChangeSpec) : _root_.Go.OpenSpec := { _root_.Go.OpenSpec.ofChange s with cond := some uptoSmall }

/-- 'reveillelaw21.BindLess', WHERE WHAT IT READS IS OF BULK AT MOST 1048576: true; the input reads as it did. -/
def bindLessUptoRow : OpenClaim := { program := "ytjecgaiaiophpaagreatdoor", sum := "5d78c912022716ac938eadcab9dc12e203b9f67641aad2b56aa7586ecee1711f", func := "reveille/reveillelaw21.BindLess", spec := "bindLess", inPlace := ["internal/bytealg.IndexByteString", "internal/bytealg.IndexString", "internal/bytealg.CountString", "internal/abi.NoEscape", "internal/bytealg.MakeNoZero"], unfollowed := true, recurses := true, named := ["unicode/utf8.first", "unicode/utf8.acceptRanges", "internal/bytealg.MaxLen"], plainKeys := false, apart := false, laid := [("unicode/utf8.acceptRanges", laid_unicode_utf8_acceptRanges), ("unicode/utf8.first", laid_unicode_utf8_first)], narrowed := true }
def BindLessUptoSaid : Prop := bindLessUptoRow.holds Tryz.pinned (OpenSpec.upto bindLessSpec)

/-- 'reveillelaw21.BindWorks', WHERE WHAT IT READS IS OF BULK AT MOST 1048576: true; the input reads as it did. -/
def bindWorksUptoRow : OpenClaim := { program := "ytjecgaiaiophpaagreatdoor", sum := "5d78c912022716ac938eadcab9dc12e203b9f67641aad2b56aa7586ecee1711f", func := "reveille/reveillelaw21.BindWorks", spec := "bindWorks", inPlace := ["internal/bytealg.IndexByteString", "internal/bytealg.IndexString", "internal/bytealg.CountString", "internal/abi.NoEscape", "internal/bytealg.MakeNoZero"], unfollowed := true, recurses := true, named := ["unicode/utf8.first", "unicode/utf8.acceptRanges", "internal/bytealg.MaxLen"], plainKeys := false, apart := false, laid := [("unicode/utf8.acceptRanges", laid_unicode_utf8_acceptRanges), ("unicode/utf8.first", laid_unicode_utf8_first)], narrowed := true }
def BindWorksUptoSaid : Prop := bindWorksUptoRow.holds Tryz.pinned (OpenSpec.upto bindWorksSpec)

/-- 'reveillelaw21.BindOrder', WHERE WHAT IT READS IS OF BULK AT MOST 1048576: true; the input reads as it did. -/
def bindOrderUptoRow : OpenClaim := { program := "ytjecgaiaiophpaagreatdoor", sum := "5d78c912022716ac938eadcab9dc12e203b9f67641aad2b56aa7586ecee1711f", func := "reveille/reveillelaw21.BindOrder", spec := "bindOrder", inPlace := ["internal/bytealg.IndexByteString", "internal/bytealg.IndexString", "internal/bytealg.CountString", "internal/abi.NoEscape", "internal/bytealg.MakeNoZero"], unfollowed := true, recurses := true, named := ["unicode/utf8.first", "unicode/utf8.acceptRanges", "internal/bytealg.MaxLen"], plainKeys := false, apart := false, laid := [("unicode/utf8.acceptRanges", laid_unicode_utf8_acceptRanges), ("unicode/utf8.first", laid_unicode_utf8_first)], narrowed := true }
def BindOrderUptoSaid : Prop := bindOrderUptoRow.holds Tryz.pinned (OpenSpec.upto bindOrderSpec)

/-- 'reveillelaw21.BindLeast', WHERE WHAT IT READS IS OF BULK AT MOST 1048576: true; the input reads as it did. -/
def bindLeastUptoRow : OpenClaim := { program := "ytjecgaiaiophpaagreatdoor", sum := "5d78c912022716ac938eadcab9dc12e203b9f67641aad2b56aa7586ecee1711f", func := "reveille/reveillelaw21.BindLeast", spec := "bindLeast", inPlace := ["internal/bytealg.IndexByteString", "internal/bytealg.IndexString", "internal/bytealg.CountString", "internal/abi.NoEscape", "internal/bytealg.MakeNoZero"], unfollowed := true, recurses := true, named := ["unicode/utf8.first", "unicode/utf8.acceptRanges", "internal/bytealg.MaxLen"], plainKeys := false, apart := false, laid := [("unicode/utf8.acceptRanges", laid_unicode_utf8_acceptRanges), ("unicode/utf8.first", laid_unicode_utf8_first)], narrowed := true }
def BindLeastUptoSaid : Prop := bindLeastUptoRow.holds Tryz.pinned (OpenSpec.upto bindLeastSpec)

/-- 'reveillelaw21.BindTells', WHERE WHAT IT READS IS OF BULK AT MOST 1048576: true; the input reads as it did. -/
def bindTellsUptoRow : OpenClaim := { program := "ytjecgaiaiophpaagreatdoor", sum := "5d78c912022716ac938eadcab9dc12e203b9f67641aad2b56aa7586ecee1711f", func := "reveille/reveillelaw21.BindTells", spec := "bindTells", inPlace := ["internal/bytealg.IndexByteString", "internal/bytealg.IndexString", "internal/bytealg.CountString", "internal/abi.NoEscape", "internal/bytealg.MakeNoZero"], unfollowed := true, recurses := true, named := ["unicode/utf8.first", "unicode/utf8.acceptRanges", "internal/bytealg.MaxLen"], plainKeys := false, apart := false, laid := [("unicode/utf8.acceptRanges", laid_unicode_utf8_acceptRanges), ("unicode/utf8.first", laid_unicode_utf8_first)], narrowed := true }
def BindTellsUptoSaid : Prop := bindTellsUptoRow.holds Tryz.pinned (OpenSpec.upto bindTellsSpec)

/-- 'reveillelaw21.BindSiblings', WHERE WHAT IT READS IS OF BULK AT MOST 1048576: true; the input reads as it did. -/
def bindSiblingsUptoRow : OpenClaim := { program := "ytjecgaiaiophpaagreatdoor", sum := "5d78c912022716ac938eadcab9dc12e203b9f67641aad2b56aa7586ecee1711f", func := "reveille/reveillelaw21.BindSiblings", spec := "bindSiblings", inPlace := ["internal/bytealg.IndexByteString", "internal/bytealg.IndexString", "internal/bytealg.CountString", "internal/abi.NoEscape", "internal/bytealg.MakeNoZero", "internal/bytealg.abigen_runtime_cmpstring"], unfollowed := true, recurses := true, named := ["unicode/utf8.first", "unicode/utf8.acceptRanges", "internal/bytealg.MaxLen"], plainKeys := false, apart := false, laid := [("unicode/utf8.acceptRanges", laid_unicode_utf8_acceptRanges), ("unicode/utf8.first", laid_unicode_utf8_first)], narrowed := true }
def BindSiblingsUptoSaid : Prop := bindSiblingsUptoRow.holds Tryz.pinned (OpenSpec.upto bindSiblingsSpec)

/-- 'reveillelaw21.BindNone', WHERE WHAT IT READS IS OF BULK AT MOST 1048576: true; the input reads as it did. -/
def bindNoneUptoRow : OpenClaim := { program := "ytjecgaiaiophpaagreatdoor", sum := "5d78c912022716ac938eadcab9dc12e203b9f67641aad2b56aa7586ecee1711f", func := "reveille/reveillelaw21.BindNone", spec := "bindNone", inPlace := ["internal/bytealg.IndexByteString", "internal/bytealg.IndexString", "internal/bytealg.CountString", "internal/abi.NoEscape", "internal/bytealg.MakeNoZero"], unfollowed := true, recurses := true, named := ["unicode/utf8.first", "unicode/utf8.acceptRanges", "internal/bytealg.MaxLen"], plainKeys := false, apart := false, laid := [("unicode/utf8.acceptRanges", laid_unicode_utf8_acceptRanges), ("unicode/utf8.first", laid_unicode_utf8_first)], narrowed := true }
def BindNoneUptoSaid : Prop := bindNoneUptoRow.holds Tryz.pinned (OpenSpec.upto bindNoneSpec)

end Rows
end Go.Proofs.YtjecgaiaiophpaaGreatDoor
