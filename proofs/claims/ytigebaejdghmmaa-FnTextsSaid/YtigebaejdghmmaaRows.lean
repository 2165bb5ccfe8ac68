/-
  No cell of these rows narrows 'for every input' (looked for: loops, veiled, ifaces, maps, wideKeys, modest, calm, conditions, laid).
  DERIVED. THE GIVEN ROWS OF THIS SEAT. 6 by the template 'for every input the law returns true; each argument reads behind the call as it read before'; 0 by the template 'total and deterministic' (their statements: YtigebaejdghmmaaTotals.lean).
  GIVEN WITH THE SEED: the statements are not yours to turn. If you find one false, say at which input.
  Laid BY PROGRAM, IN A SANDBOX (cutbox-rows.mjs): the forced cells as the released guide's own fill.sh prints them over the translation 680fef631063337e… (all of the seat's roots in one cut). By AI agents, Wed Nov 11 2026. No macro, syntax, notation, axiom, sorry.
-/
import Derived.Test.YtigebaejdghmmaaChecked
import GoSem.Claim
import GoSem.ClaimJoined
import GoSem.ClaimMapViews
import Derived.JoinedTies
import Derived.KernelRfl
namespace Go.Proofs.Ytigebaejdghmmaa
/- THE CELL 'sum', in the pinned program and in every row, IS THE sha256 OF THE DUMP (.gsa) THAT YtigebaejdghmmaaProg.lean LOADS. Nothing in Lean hashes anything: it is a label: what it is worth is what the hold of that sum in a sandbox is worth. -/
noncomputable def Try.pinned : Pinned := { name := "ytigebaejdghmmaa", sum := "680fef631063337ecd048149a0e80cce443fffd1cdeb1aadbff9edff17fccc04", checked := Try.checked }
namespace Rows
def none {H : Type} : Left H := { results := [], args := [] }

/-- 'laws.FnExactCanonExchange': WHATEVER THE INPUT: true; the input reads as it did. -/
def fnExactCanonExchangeSpec : ChangeSpec := { name := "fnExactCanonExchange", fn := fun _ => fun
  | [d1, d2, d3] => { results := [.lit (.bool true)], args := [d1, d2, d3] }
  | _ => none }
def fnExactCanonExchangeRow : OpenClaim := { program := "ytigebaejdghmmaa", sum := "680fef631063337ecd048149a0e80cce443fffd1cdeb1aadbff9edff17fccc04", func := "loop.example/g01041/laws.FnExactCanonExchange", spec := "fnExactCanonExchange", unfollowed := true, recurses := true, apart := false }
def FnExactCanonExchangeSaid : Prop := fnExactCanonExchangeRow.holds Try.pinned (OpenSpec.ofChange fnExactCanonExchangeSpec)

/-- ITS FALSE NEIGHBOUR: 'it returns false'. Refute it at one input. -/
def fnExactCanonExchangeWrong : ChangeSpec := { name := "fnExactCanonExchange", fn := fun _ => fun
  | [d1, d2, d3] => { results := [.lit (.bool false)], args := [d1, d2, d3] }
  | _ => none }
def FnExactCanonExchangeWrongFalsely : Prop := fnExactCanonExchangeRow.holds Try.pinned (OpenSpec.ofChange fnExactCanonExchangeWrong)

/-- 'laws.FnExactExchangePatterns': WHATEVER THE INPUT: true; the input reads as it did. -/
def fnExactExchangePatternsSpec : ChangeSpec := { name := "fnExactExchangePatterns", fn := fun _ => fun
  | [d1, d2] => { results := [.lit (.bool true)], args := [d1, d2] }
  | _ => none }
def fnExactExchangePatternsRow : OpenClaim := { program := "ytigebaejdghmmaa", sum := "680fef631063337ecd048149a0e80cce443fffd1cdeb1aadbff9edff17fccc04", func := "loop.example/g01041/laws.FnExactExchangePatterns", spec := "fnExactExchangePatterns", unfollowed := true, recurses := true, apart := false }
def FnExactExchangePatternsSaid : Prop := fnExactExchangePatternsRow.holds Try.pinned (OpenSpec.ofChange fnExactExchangePatternsSpec)

/-- ITS FALSE NEIGHBOUR: 'it returns false'. Refute it at one input. -/
def fnExactExchangePatternsWrong : ChangeSpec := { name := "fnExactExchangePatterns", fn := fun _ => fun
  | [d1, d2] => { results := [.lit (.bool false)], args := [d1, d2] }
  | _ => none }
def FnExactExchangePatternsWrongFalsely : Prop := fnExactExchangePatternsRow.holds Try.pinned (OpenSpec.ofChange fnExactExchangePatternsWrong)

/-- 'laws.FnExactTreeCodes': WHATEVER THE INPUT: true; the input reads as it did. -/
def fnExactTreeCodesSpec : ChangeSpec := { name := "fnExactTreeCodes", fn := fun _ => fun
  | [d] => { results := [.lit (.bool true)], args := [d] }
  | _ => none }
def fnExactTreeCodesRow : OpenClaim := { program := "ytigebaejdghmmaa", sum := "680fef631063337ecd048149a0e80cce443fffd1cdeb1aadbff9edff17fccc04", func := "loop.example/g01041/laws.FnExactTreeCodes", spec := "fnExactTreeCodes", inPlace := ["internal/abi.NoEscape", "internal/bytealg.MakeNoZero", "internal/bytealg.abigen_runtime_cmpstring"], unfollowed := true, recurses := true, apart := false }
def FnExactTreeCodesSaid : Prop := fnExactTreeCodesRow.holds Try.pinned (OpenSpec.ofChange fnExactTreeCodesSpec)

/-- ITS FALSE NEIGHBOUR: 'it returns false'. Refute it at one input. -/
def fnExactTreeCodesWrong : ChangeSpec := { name := "fnExactTreeCodes", fn := fun _ => fun
  | [d] => { results := [.lit (.bool false)], args := [d] }
  | _ => none }
def FnExactTreeCodesWrongFalsely : Prop := fnExactTreeCodesRow.holds Try.pinned (OpenSpec.ofChange fnExactTreeCodesWrong)

/-- 'laws.FnReports': WHATEVER THE INPUT: true; the input reads as it did. -/
def fnReportsSpec : ChangeSpec := { name := "fnReports", fn := fun _ => fun
  | [d] => { results := [.lit (.bool true)], args := [d] }
  | _ => none }
def fnReportsRow : OpenClaim := { program := "ytigebaejdghmmaa", sum := "680fef631063337ecd048149a0e80cce443fffd1cdeb1aadbff9edff17fccc04", func := "loop.example/g01041/laws.FnReports", spec := "fnReports", inPlace := ["internal/abi.NoEscape", "internal/bytealg.MakeNoZero"], unfollowed := true, recurses := true, apart := false }
def FnReportsSaid : Prop := fnReportsRow.holds Try.pinned (OpenSpec.ofChange fnReportsSpec)

/-- ITS FALSE NEIGHBOUR: 'it returns false'. Refute it at one input. -/
def fnReportsWrong : ChangeSpec := { name := "fnReports", fn := fun _ => fun
  | [d] => { results := [.lit (.bool false)], args := [d] }
  | _ => none }
def FnReportsWrongFalsely : Prop := fnReportsRow.holds Try.pinned (OpenSpec.ofChange fnReportsWrong)

/-- 'laws.FnExactRenamingsOf': WHATEVER THE INPUT: true; the input reads as it did. -/
def fnExactRenamingsOfSpec : ChangeSpec := { name := "fnExactRenamingsOf", fn := fun _ => fun
  | [d1, d2] => { results := [.lit (.bool true)], args := [d1, d2] }
  | _ => none }
def fnExactRenamingsOfRow : OpenClaim := { program := "ytigebaejdghmmaa", sum := "680fef631063337ecd048149a0e80cce443fffd1cdeb1aadbff9edff17fccc04", func := "loop.example/g01041/laws.FnExactRenamingsOf", spec := "fnExactRenamingsOf", unfollowed := true, recurses := true, apart := false }
def FnExactRenamingsOfSaid : Prop := fnExactRenamingsOfRow.holds Try.pinned (OpenSpec.ofChange fnExactRenamingsOfSpec)

/-- ITS FALSE NEIGHBOUR: 'it returns false'. Refute it at one input. -/
def fnExactRenamingsOfWrong : ChangeSpec := { name := "fnExactRenamingsOf", fn := fun _ => fun
  | [d1, d2] => { results := [.lit (.bool false)], args := [d1, d2] }
  | _ => none }
def FnExactRenamingsOfWrongFalsely : Prop := fnExactRenamingsOfRow.holds Try.pinned (OpenSpec.ofChange fnExactRenamingsOfWrong)

/-- 'laws.FnTexts': WHATEVER THE INPUT: true; the input reads as it did. -/
def fnTextsSpec : ChangeSpec := { name := "fnTexts", fn := fun _ => fun
  | [d] => { results := [.lit (.bool true)], args := [d] }
  | _ => none }
def fnTextsRow : OpenClaim := { program := "ytigebaejdghmmaa", sum := "680fef631063337ecd048149a0e80cce443fffd1cdeb1aadbff9edff17fccc04", func := "loop.example/g01041/laws.FnTexts", spec := "fnTexts", inPlace := ["internal/abi.NoEscape", "internal/bytealg.MakeNoZero", "internal/bytealg.IndexByteString"], unfollowed := true, recurses := true, apart := false }
def FnTextsSaid : Prop := fnTextsRow.holds Try.pinned (OpenSpec.ofChange fnTextsSpec)

/-- ITS FALSE NEIGHBOUR: 'it returns false'. Refute it at one input. -/
def fnTextsWrong : ChangeSpec := { name := "fnTexts", fn := fun _ => fun
  | [d] => { results := [.lit (.bool false)], args := [d] }
  | _ => none }
def FnTextsWrongFalsely : Prop := fnTextsRow.holds Try.pinned (OpenSpec.ofChange fnTextsWrong)

/- THE SECOND FORM. 'bulk': how many values and letters a reading holds, each counted each time it is reached (what is shared counts as often as it is met; a slice's spare places count too). A statement '..UptoSaid' is the law's where the arguments, and the package variables that the reading takes, are together of bulk at most 1048576: NARROWER than '..Said'. Prove '..Said' where nothing that the law and all that it calls make is longer than what came in: it says more and counts as full. Else prove '..UptoSaid'. A law counts once. -/
mutual
def uptoBulk {H : Type} : DataW H → Nat
  | .lit (.string bytes) => bytes.length + 1
  | .lit _ => 1
  | .nil => 1
  | .ptr d => uptoBulk d + 1
  | .slice elems spare => uptoBulkAll elems + uptoBulkAll spare + 1
  | .agg parts => uptoBulkAll parts + 1
  | .iface _ d => uptoBulk d + 1
  | .map entries => uptoBulkEntries entries + 1
  | .held _ => 1
def uptoBulkAll {H : Type} : List (DataW H) → Nat
  | [] => 0
  | d :: r => uptoBulk d + uptoBulkAll r
def uptoBulkEntries {H : Type} : List (Lit × DataW H) → Nat
  | [] => 0
  | x :: r => uptoBulkEntry x + uptoBulkEntries r
def uptoBulkEntry {H : Type} : Lit × DataW H → Nat
  | (.string bytes, d) => bytes.length + uptoBulk d + 1
  | (_, d) => uptoBulk d + 1
 end
def uptoSmall : (H : Type) → List (DataW H) → Bool := fun _ ds => decide (uptoBulkAll ds ≤ 1048576)
def OpenSpec.upto (s : _root_.Go.ChangeSpec) : _root_.Go.OpenSpec := { _root_.Go.OpenSpec.ofChange s with cond := some uptoSmall }

/-- 'laws.FnExactCanonExchange', WHERE WHAT IT READS IS OF BULK AT MOST 1048576: true; the input reads as it did. -/
def fnExactCanonExchangeUptoRow : OpenClaim := { program := "ytigebaejdghmmaa", sum := "680fef631063337ecd048149a0e80cce443fffd1cdeb1aadbff9edff17fccc04", func := "loop.example/g01041/laws.FnExactCanonExchange", spec := "fnExactCanonExchange", unfollowed := true, recurses := true, apart := false, narrowed := true }
def FnExactCanonExchangeUptoSaid : Prop := fnExactCanonExchangeUptoRow.holds Try.pinned (OpenSpec.upto fnExactCanonExchangeSpec)

/-- 'laws.FnExactExchangePatterns', WHERE WHAT IT READS IS OF BULK AT MOST 1048576: true; the input reads as it did. -/
def fnExactExchangePatternsUptoRow : OpenClaim := { program := "ytigebaejdghmmaa", sum := "680fef631063337ecd048149a0e80cce443fffd1cdeb1aadbff9edff17fccc04", func := "loop.example/g01041/laws.FnExactExchangePatterns", spec := "fnExactExchangePatterns", unfollowed := true, recurses := true, apart := false, narrowed := true }
def FnExactExchangePatternsUptoSaid : Prop := fnExactExchangePatternsUptoRow.holds Try.pinned (OpenSpec.upto fnExactExchangePatternsSpec)

/-- 'laws.FnExactTreeCodes', WHERE WHAT IT READS IS OF BULK AT MOST 1048576: true; the input reads as it did. -/
def fnExactTreeCodesUptoRow : OpenClaim := { program := "ytigebaejdghmmaa", sum := "680fef631063337ecd048149a0e80cce443fffd1cdeb1aadbff9edff17fccc04", func := "loop.example/g01041/laws.FnExactTreeCodes", spec := "fnExactTreeCodes", inPlace := ["internal/abi.NoEscape", "internal/bytealg.MakeNoZero", "internal/bytealg.abigen_runtime_cmpstring"], unfollowed := true, recurses := true, apart := false, narrowed := true }
def FnExactTreeCodesUptoSaid : Prop := fnExactTreeCodesUptoRow.holds Try.pinned (OpenSpec.upto fnExactTreeCodesSpec)

/-- 'laws.FnReports', WHERE WHAT IT READS IS OF BULK AT MOST 1048576: true; the input reads as it did. -/
def fnReportsUptoRow : OpenClaim := { program := "ytigebaejdghmmaa", sum := "680fef631063337ecd048149a0e80cce443fffd1cdeb1aadbff9edff17fccc04", func := "loop.example/g01041/laws.FnReports", spec := "fnReports", inPlace := ["internal/abi.NoEscape", "internal/bytealg.MakeNoZero"], unfollowed := true, recurses := true, apart := false, narrowed := true }
def FnReportsUptoSaid : Prop := fnReportsUptoRow.holds Try.pinned (OpenSpec.upto fnReportsSpec)

/-- 'laws.FnExactRenamingsOf', WHERE WHAT IT READS IS OF BULK AT MOST 1048576: true; the input reads as it did. -/
def fnExactRenamingsOfUptoRow : OpenClaim := { program := "ytigebaejdghmmaa", sum := "680fef631063337ecd048149a0e80cce443fffd1cdeb1aadbff9edff17fccc04", func := "loop.example/g01041/laws.FnExactRenamingsOf", spec := "fnExactRenamingsOf", unfollowed := true, recurses := true, apart := false, narrowed := true }
def FnExactRenamingsOfUptoSaid : Prop := fnExactRenamingsOfUptoRow.holds Try.pinned (OpenSpec.upto fnExactRenamingsOfSpec)

/-- 'laws.FnTexts', WHERE WHAT IT READS IS OF BULK AT MOST 1048576: true; the input reads as it did. -/
def fnTextsUptoRow : OpenClaim := { program := "ytigebaejdghmmaa", sum := "680fef631063337ecd048149a0e80cce443fffd1cdeb1aadbff9edff17fccc04", func := "loop.example/g01041/laws.FnTexts", spec := "fnTexts", inPlace := ["internal/abi.NoEscape", "internal/bytealg.MakeNoZero", "internal/bytealg.IndexByteString"], unfollowed := true, recurses := true, apart := false, narrowed := true }
def FnTextsUptoSaid : Prop := fnTextsUptoRow.holds Try.pinned (OpenSpec.upto fnTextsSpec)

end Rows
end Go.Proofs.Ytigebaejdghmmaa
