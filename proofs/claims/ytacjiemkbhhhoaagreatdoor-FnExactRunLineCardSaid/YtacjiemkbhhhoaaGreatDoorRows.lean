/-
  NARROWER THAN 'FOR EVERY INPUT', by the rows' own cells (each row's printed sentence says how): FnConfirms: laid · FnConsole: laid · FnExactRunSession: laid · FnExactRunLine: laid.
  DERIVED. THE GIVEN ROWS OF THIS SEAT. 4 by the template 'for every input the law returns true; each argument reads behind the call as it read before'; 0 by the template 'total and deterministic' (their statements: YtacjiemkbhhhoaaGreatDoorTotals.lean).
  GIVEN WITH THE SEED: the statements are not yours to turn. If you find one false, say at which input.
  Laid BY PROGRAM, IN A SANDBOX (cutbox-rows.mjs): the forced cells as the released guide's own fill.sh prints them over the translation 5eef025cfea4672d… (all of the seat's roots in one cut). By AI agents, Wed Nov 11 2026. No macro, syntax, notation, axiom, sorry.
-/
import Derived.Test.YtacjiemkbhhhoaaGreatDoorChecked
import GoSem.PinnedTables
import GoSem.Claim
import GoSem.ClaimJoined
import GoSem.ClaimMapViews
import Derived.JoinedTies
import Derived.KernelRfl
namespace Go.Proofs.YtacjiemkbhhhoaaGreatDoor
/- THE CELL 'sum', in the pinned program and in every row, IS THE sha256 OF THE DUMP (.gsa) THAT YtacjiemkbhhhoaaGreatDoorProg.lean LOADS. Nothing in Lean hashes anything: it is a label: what it is worth is what the hold of that sum in a sandbox is worth. -/
noncomputable def Tryz.pinned : Pinned := { name := "ytacjiemkbhhhoaagreatdoor", sum := "5eef025cfea4672db1ce8d76531093684572af414c041249a07fe436e920192f", checked := Tryz.checked }
namespace Rows
def none {H : Type} : Left H := { results := [], args := [] }

/- WHAT THE LISTED PACKAGE-LEVEL VARIABLES READ AS WHEN THE CALL BEGINS. Each datum BY PROGRAM (the guide's laid-datum.mjs) off the statement by which the dump's own 'gosem.cut.vars' lays the variable. In a bare row this is a premise. The card (YtacjiemkbhhhoaaGreatDoorCards.lean) ties it to the program's text. -/
def laid_unicode_utf8_acceptRanges {H : Type} : DataW H := .agg [.agg [.lit (.int .u8 128), .lit (.int .u8 191)], .agg [.lit (.int .u8 160), .lit (.int .u8 191)], .agg [.lit (.int .u8 128), .lit (.int .u8 159)], .agg [.lit (.int .u8 144), .lit (.int .u8 191)], .agg [.lit (.int .u8 128), .lit (.int .u8 143)], .agg [.lit (.int .u8 0), .lit (.int .u8 0)], .agg [.lit (.int .u8 0), .lit (.int .u8 0)], .agg [.lit (.int .u8 0), .lit (.int .u8 0)], .agg [.lit (.int .u8 0), .lit (.int .u8 0)], .agg [.lit (.int .u8 0), .lit (.int .u8 0)], .agg [.lit (.int .u8 0), .lit (.int .u8 0)], .agg [.lit (.int .u8 0), .lit (.int .u8 0)], .agg [.lit (.int .u8 0), .lit (.int .u8 0)], .agg [.lit (.int .u8 0), .lit (.int .u8 0)], .agg [.lit (.int .u8 0), .lit (.int .u8 0)], .agg [.lit (.int .u8 0), .lit (.int .u8 0)]]
/-- One of Go's own tables, pinned by name: the form's constant. -/
def laid_unicode_utf8_first : DataW Unit := Go.Pinned.utf8First

/-- 'laws.FnConfirms': WHATEVER THE INPUT: true; the input reads as it did. -/
def fnConfirmsSpec : ChangeSpec := { name := "fnConfirms", fn := fun _ => fun
  | [d] => { results := [.lit (.bool true)], args := [d] }
  | _ => none }
def fnConfirmsRow : OpenClaim := { program := "ytacjiemkbhhhoaagreatdoor", sum := "5eef025cfea4672db1ce8d76531093684572af414c041249a07fe436e920192f", func := "loop.example/g01041/laws.FnConfirms", spec := "fnConfirms", inPlace := ["internal/bytealg.IndexByteString", "internal/bytealg.CountString", "internal/bytealg.IndexString", "internal/abi.NoEscape", "internal/bytealg.MakeNoZero"], unfollowed := true, recurses := true, named := ["unicode/utf8.first", "unicode/utf8.acceptRanges", "internal/bytealg.MaxLen"], apart := false, laid := [("unicode/utf8.acceptRanges", laid_unicode_utf8_acceptRanges), ("unicode/utf8.first", laid_unicode_utf8_first)] }
def FnConfirmsSaid : Prop := fnConfirmsRow.holds Tryz.pinned (OpenSpec.ofChange fnConfirmsSpec)

/-- ITS FALSE NEIGHBOUR: 'it returns false'. Refute it at one input. -/
def fnConfirmsWrong : ChangeSpec := { name := "fnConfirms", fn := fun _ => fun
  | [d] => { results := [.lit (.bool false)], args := [d] }
  | _ => none }
def FnConfirmsWrongFalsely : Prop := fnConfirmsRow.holds Tryz.pinned (OpenSpec.ofChange fnConfirmsWrong)

/-- 'laws.FnConsole': WHATEVER THE INPUT: true; the input reads as it did. -/
def fnConsoleSpec : ChangeSpec := { name := "fnConsole", fn := fun _ => fun
  | [d] => { results := [.lit (.bool true)], args := [d] }
  | _ => none }
def fnConsoleRow : OpenClaim := { program := "ytacjiemkbhhhoaagreatdoor", sum := "5eef025cfea4672db1ce8d76531093684572af414c041249a07fe436e920192f", func := "loop.example/g01041/laws.FnConsole", spec := "fnConsole", inPlace := ["internal/bytealg.CountString", "internal/bytealg.IndexByteString", "internal/bytealg.IndexString", "internal/abi.NoEscape", "internal/bytealg.MakeNoZero"], unfollowed := true, recurses := true, named := ["unicode/utf8.first", "unicode/utf8.acceptRanges", "internal/bytealg.MaxLen"], apart := false, laid := [("unicode/utf8.acceptRanges", laid_unicode_utf8_acceptRanges), ("unicode/utf8.first", laid_unicode_utf8_first)] }
def FnConsoleSaid : Prop := fnConsoleRow.holds Tryz.pinned (OpenSpec.ofChange fnConsoleSpec)

/-- ITS FALSE NEIGHBOUR: 'it returns false'. Refute it at one input. -/
def fnConsoleWrong : ChangeSpec := { name := "fnConsole", fn := fun _ => fun
  | [d] => { results := [.lit (.bool false)], args := [d] }
  | _ => none }
def FnConsoleWrongFalsely : Prop := fnConsoleRow.holds Tryz.pinned (OpenSpec.ofChange fnConsoleWrong)

/-- 'laws.FnExactRunSession': WHATEVER THE INPUT: true; the input reads as it did. -/
def fnExactRunSessionSpec : ChangeSpec := { name := "fnExactRunSession", fn := fun _ => fun
  | [d] => { results := [.lit (.bool true)], args := [d] }
  | _ => none }
def fnExactRunSessionRow : OpenClaim := { program := "ytacjiemkbhhhoaagreatdoor", sum := "5eef025cfea4672db1ce8d76531093684572af414c041249a07fe436e920192f", func := "loop.example/g01041/laws.FnExactRunSession", spec := "fnExactRunSession", inPlace := ["internal/bytealg.IndexByteString", "internal/bytealg.CountString", "internal/bytealg.IndexString", "internal/abi.NoEscape", "internal/bytealg.MakeNoZero"], unfollowed := true, recurses := true, named := ["unicode/utf8.first", "unicode/utf8.acceptRanges", "internal/bytealg.MaxLen"], apart := false, laid := [("unicode/utf8.acceptRanges", laid_unicode_utf8_acceptRanges), ("unicode/utf8.first", laid_unicode_utf8_first)] }
def FnExactRunSessionSaid : Prop := fnExactRunSessionRow.holds Tryz.pinned (OpenSpec.ofChange fnExactRunSessionSpec)

/-- ITS FALSE NEIGHBOUR: 'it returns false'. Refute it at one input. -/
def fnExactRunSessionWrong : ChangeSpec := { name := "fnExactRunSession", fn := fun _ => fun
  | [d] => { results := [.lit (.bool false)], args := [d] }
  | _ => none }
def FnExactRunSessionWrongFalsely : Prop := fnExactRunSessionRow.holds Tryz.pinned (OpenSpec.ofChange fnExactRunSessionWrong)

/-- 'laws.FnExactRunLine': WHATEVER THE INPUT: true; the input reads as it did. -/
def fnExactRunLineSpec : ChangeSpec := { name := "fnExactRunLine", fn := fun _ => fun
  | [d1, d2] => { results := [.lit (.bool true)], args := [d1, d2] }
  | _ => none }
def fnExactRunLineRow : OpenClaim := { program := "ytacjiemkbhhhoaagreatdoor", sum := "5eef025cfea4672db1ce8d76531093684572af414c041249a07fe436e920192f", func := "loop.example/g01041/laws.FnExactRunLine", spec := "fnExactRunLine", inPlace := ["internal/bytealg.CountString", "internal/bytealg.IndexByteString", "internal/bytealg.IndexString", "internal/abi.NoEscape", "internal/bytealg.MakeNoZero"], unfollowed := true, recurses := true, named := ["unicode/utf8.first", "unicode/utf8.acceptRanges", "internal/bytealg.MaxLen"], apart := false, laid := [("unicode/utf8.acceptRanges", laid_unicode_utf8_acceptRanges), ("unicode/utf8.first", laid_unicode_utf8_first)] }
def FnExactRunLineSaid : Prop := fnExactRunLineRow.holds Tryz.pinned (OpenSpec.ofChange fnExactRunLineSpec)

/-- ITS FALSE NEIGHBOUR: 'it returns false'. Refute it at one input. -/
def fnExactRunLineWrong : ChangeSpec := { name := "fnExactRunLine", fn := fun _ => fun
  | [d1, d2] => { results := [.lit (.bool false)], args := [d1, d2] }
  | _ => none }
def FnExactRunLineWrongFalsely : Prop := fnExactRunLineRow.holds Tryz.pinned (OpenSpec.ofChange fnExactRunLineWrong)

/- THE SECOND FORM. 'bulk': how many values and letters a reading holds, each counted each time it is reached (what is shared counts as often as it is met; a slice's spare places count too). A statement '..UptoSaid' is the law's where the arguments, and the package variables that the reading takes, are together of bulk at most 1048576: NARROWER than '..Said'. Prove '..Said' where nothing that the law and all that it calls make is longer than what came in: it says more and counts as full. Else prove '..UptoSaid'. A law counts once. -/
mutual
def uptoBulk {H : Type} : DataW H → Nat
  | .lit (.string bytes) => bytes.length + 1
  | .lit _ => 1
  | .nil => 1
  | .ptr d => uptoBulk d + 1
  | .slice elems spare => uptoBulkAll elems + uptoBulkAll spare + 1
  | .agg parts => uptoBulkAll parts + 1
  | .iface _ d => uptoBulk d + 1
  | .map entries => uptoBulkEntries entries + 1
  | .held _ => 1
def uptoBulkAll {H : Type} : List (DataW H) → Nat
  | [] => 0
  | d :: r => uptoBulk d + uptoBulkAll r
def uptoBulkEntries {H : Type} : List (Lit × DataW H) → Nat
  | [] => 0
  | x :: r => uptoBulkEntry x + uptoBulkEntries r
def uptoBulkEntry {H : Type} : Lit × DataW H → Nat
  | (.string bytes, d) => bytes.length + uptoBulk d + 1
  | (_, d) => uptoBulk d + 1
 end
def uptoSmall : (H : Type) → List (DataW H) → Bool := fun _ ds => decide (uptoBulkAll ds ≤ 1048576)
def OpenSpec.upto (s : _root_.Go.ChangeSpec) : _root_.Go.OpenSpec := { _root_.Go.OpenSpec.ofChange s with cond := some uptoSmall }

/-- 'laws.FnConfirms', WHERE WHAT IT READS IS OF BULK AT MOST 1048576: true; the input reads as it did. -/
def fnConfirmsUptoRow : OpenClaim := { program := "ytacjiemkbhhhoaagreatdoor", sum := "5eef025cfea4672db1ce8d76531093684572af414c041249a07fe436e920192f", func := "loop.example/g01041/laws.FnConfirms", spec := "fnConfirms", inPlace := ["internal/bytealg.IndexByteString", "internal/bytealg.CountString", "internal/bytealg.IndexString", "internal/abi.NoEscape", "internal/bytealg.MakeNoZero"], unfollowed := true, recurses := true, named := ["unicode/utf8.first", "unicode/utf8.acceptRanges", "internal/bytealg.MaxLen"], apart := false, laid := [("unicode/utf8.acceptRanges", laid_unicode_utf8_acceptRanges), ("unicode/utf8.first", laid_unicode_utf8_first)], narrowed := true }
def FnConfirmsUptoSaid : Prop := fnConfirmsUptoRow.holds Tryz.pinned (OpenSpec.upto fnConfirmsSpec)

/-- 'laws.FnConsole', WHERE WHAT IT READS IS OF BULK AT MOST 1048576: true; the input reads as it did. -/
def fnConsoleUptoRow : OpenClaim := { program := "ytacjiemkbhhhoaagreatdoor", sum := "5eef025cfea4672db1ce8d76531093684572af414c041249a07fe436e920192f", func := "loop.example/g01041/laws.FnConsole", spec := "fnConsole", inPlace := ["internal/bytealg.CountString", "internal/bytealg.IndexByteString", "internal/bytealg.IndexString", "internal/abi.NoEscape", "internal/bytealg.MakeNoZero"], unfollowed := true, recurses := true, named := ["unicode/utf8.first", "unicode/utf8.acceptRanges", "internal/bytealg.MaxLen"], apart := false, laid := [("unicode/utf8.acceptRanges", laid_unicode_utf8_acceptRanges), ("unicode/utf8.first", laid_unicode_utf8_first)], narrowed := true }
def FnConsoleUptoSaid : Prop := fnConsoleUptoRow.holds Tryz.pinned (OpenSpec.upto fnConsoleSpec)

/-- 'laws.FnExactRunSession', WHERE WHAT IT READS IS OF BULK AT MOST 1048576: true; the input reads as it did. -/
def fnExactRunSessionUptoRow : OpenClaim := { program := "ytacjiemkbhhhoaagreatdoor", sum := "5eef025cfea4672db1ce8d76531093684572af414c041249a07fe436e920192f", func := "loop.example/g01041/laws.FnExactRunSession", spec := "fnExactRunSession", inPlace := ["internal/bytealg.IndexByteString", "internal/bytealg.CountString", "internal/bytealg.IndexString", "internal/abi.NoEscape", "internal/bytealg.MakeNoZero"], unfollowed := true, recurses := true, named := ["unicode/utf8.first", "unicode/utf8.acceptRanges", "internal/bytealg.MaxLen"], apart := false, laid := [("unicode/utf8.acceptRanges", laid_unicode_utf8_acceptRanges), ("unicode/utf8.first", laid_unicode_utf8_first)], narrowed := true }
def FnExactRunSessionUptoSaid : Prop := fnExactRunSessionUptoRow.holds Tryz.pinned (OpenSpec.upto fnExactRunSessionSpec)

/-- 'laws.FnExactRunLine', WHERE WHAT IT READS IS OF BULK AT MOST 1048576: true; the input reads as it did. -/
def fnExactRunLineUptoRow : OpenClaim := { program := "ytacjiemkbhhhoaagreatdoor", sum := "5eef025cfea4672db1ce8d76531093684572af414c041249a07fe436e920192f", func := "loop.example/g01041/laws.FnExactRunLine", spec := "fnExactRunLine", inPlace := ["internal/bytealg.CountString", "internal/bytealg.IndexByteString", "internal/bytealg.IndexString", "internal/abi.NoEscape", "internal/bytealg.MakeNoZero"], unfollowed := true, recurses := true, named := ["unicode/utf8.first", "unicode/utf8.acceptRanges", "internal/bytealg.MaxLen"], apart := false, laid := [("unicode/utf8.acceptRanges", laid_unicode_utf8_acceptRanges), ("unicode/utf8.first", laid_unicode_utf8_first)], narrowed := true }
def FnExactRunLineUptoSaid : Prop := fnExactRunLineUptoRow.holds Tryz.pinned (OpenSpec.upto fnExactRunLineSpec)

end Rows
end Go.Proofs.YtacjiemkbhhhoaaGreatDoor
