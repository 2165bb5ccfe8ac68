/-
  No cell of these rows narrows 'for every input' (looked for: loops, veiled, ifaces, maps, wideKeys, modest, calm, conditions, laid).
  DERIVED. THE GIVEN ROWS OF THIS SEAT. 12 by the template 'for every input the law returns true; each argument reads behind the call as it read before'; 0 by the template 'total and deterministic' (their statements: YtekknbcojfaohaaTotals.lean).
  GIVEN WITH THE SEED: the statements are not yours to turn. If you find one false, say at which input.
  Laid BY PROGRAM, IN A SANDBOX (cutbox-rows.mjs): the forced cells as the released guide's own fill.sh prints them over the translation 1e5065f97a1ac45d… (all of the seat's roots in one cut). By AI agents, Wed Nov 11 2026. No macro, syntax, notation, axiom, sorry.
-/
import Derived.Test.YtekknbcojfaohaaChecked
import GoSem.Claim
import GoSem.ClaimJoined
import GoSem.ClaimMapViews
import Derived.JoinedTies
import Derived.KernelRfl
namespace Go.Proofs.Ytekknbcojfaohaa
/- THE CELL 'sum', in the pinned program and in every row, IS THE sha256 OF THE DUMP (.gsa) THAT YtekknbcojfaohaaProg.lean LOADS. Nothing in Lean hashes anything: it is a label: what it is worth is what the hold of that sum in a sandbox is worth. -/
noncomputable def Try.pinned : Pinned := { name := "ytekknbcojfaohaa", sum := "1e5065f97a1ac45daad935dcfba749031d19a1b2c03d5319d2a5441fe2ec2ba0", checked := Try.checked }
namespace Rows
def none {H : Type} : Left H := { results := [], args := [] }

/-- 'laws.FnExactReadTree': WHATEVER THE INPUT: true; the input reads as it did. -/
def fnExactReadTreeSpec : ChangeSpec := { name := "fnExactReadTree", fn := fun _ => fun
  | [d] => { results := [.lit (.bool true)], args := [d] }
  | _ => none }
def fnExactReadTreeRow : OpenClaim := { program := "ytekknbcojfaohaa", sum := "1e5065f97a1ac45daad935dcfba749031d19a1b2c03d5319d2a5441fe2ec2ba0", func := "loop.example/g01041/laws.FnExactReadTree", spec := "fnExactReadTree", inPlace := ["internal/abi.NoEscape", "internal/bytealg.MakeNoZero"], recurses := true, apart := false }
def FnExactReadTreeSaid : Prop := fnExactReadTreeRow.holds Try.pinned (OpenSpec.ofChange fnExactReadTreeSpec)

/-- ITS FALSE NEIGHBOUR: 'it returns false'. Refute it at one input. -/
def fnExactReadTreeWrong : ChangeSpec := { name := "fnExactReadTree", fn := fun _ => fun
  | [d] => { results := [.lit (.bool false)], args := [d] }
  | _ => none }
def FnExactReadTreeWrongFalsely : Prop := fnExactReadTreeRow.holds Try.pinned (OpenSpec.ofChange fnExactReadTreeWrong)

/-- 'laws.FnExactFormatGraph': WHATEVER THE INPUT: true; the input reads as it did. -/
def fnExactFormatGraphSpec : ChangeSpec := { name := "fnExactFormatGraph", fn := fun _ => fun
  | [d1, d2] => { results := [.lit (.bool true)], args := [d1, d2] }
  | _ => none }
def fnExactFormatGraphRow : OpenClaim := { program := "ytekknbcojfaohaa", sum := "1e5065f97a1ac45daad935dcfba749031d19a1b2c03d5319d2a5441fe2ec2ba0", func := "loop.example/g01041/laws.FnExactFormatGraph", spec := "fnExactFormatGraph", inPlace := ["internal/abi.NoEscape", "internal/bytealg.MakeNoZero"], unfollowed := true, recurses := true, apart := false }
def FnExactFormatGraphSaid : Prop := fnExactFormatGraphRow.holds Try.pinned (OpenSpec.ofChange fnExactFormatGraphSpec)

/-- ITS FALSE NEIGHBOUR: 'it returns false'. Refute it at one input. -/
def fnExactFormatGraphWrong : ChangeSpec := { name := "fnExactFormatGraph", fn := fun _ => fun
  | [d1, d2] => { results := [.lit (.bool false)], args := [d1, d2] }
  | _ => none }
def FnExactFormatGraphWrongFalsely : Prop := fnExactFormatGraphRow.holds Try.pinned (OpenSpec.ofChange fnExactFormatGraphWrong)

/-- 'laws.FnExactParseGraph': WHATEVER THE INPUT: true; the input reads as it did. -/
def fnExactParseGraphSpec : ChangeSpec := { name := "fnExactParseGraph", fn := fun _ => fun
  | [d1, d2] => { results := [.lit (.bool true)], args := [d1, d2] }
  | _ => none }
def fnExactParseGraphRow : OpenClaim := { program := "ytekknbcojfaohaa", sum := "1e5065f97a1ac45daad935dcfba749031d19a1b2c03d5319d2a5441fe2ec2ba0", func := "loop.example/g01041/laws.FnExactParseGraph", spec := "fnExactParseGraph", inPlace := ["internal/abi.NoEscape", "internal/bytealg.MakeNoZero"], unfollowed := true, recurses := true, apart := false }
def FnExactParseGraphSaid : Prop := fnExactParseGraphRow.holds Try.pinned (OpenSpec.ofChange fnExactParseGraphSpec)

/-- ITS FALSE NEIGHBOUR: 'it returns false'. Refute it at one input. -/
def fnExactParseGraphWrong : ChangeSpec := { name := "fnExactParseGraph", fn := fun _ => fun
  | [d1, d2] => { results := [.lit (.bool false)], args := [d1, d2] }
  | _ => none }
def FnExactParseGraphWrongFalsely : Prop := fnExactParseGraphRow.holds Try.pinned (OpenSpec.ofChange fnExactParseGraphWrong)

/-- 'laws.FnExactCountPartitions': WHATEVER THE INPUT: true; the input reads as it did. -/
def fnExactCountPartitionsSpec : ChangeSpec := { name := "fnExactCountPartitions", fn := fun _ => fun
  | [d1, d2] => { results := [.lit (.bool true)], args := [d1, d2] }
  | _ => none }
def fnExactCountPartitionsRow : OpenClaim := { program := "ytekknbcojfaohaa", sum := "1e5065f97a1ac45daad935dcfba749031d19a1b2c03d5319d2a5441fe2ec2ba0", func := "loop.example/g01041/laws.FnExactCountPartitions", spec := "fnExactCountPartitions", unfollowed := true, recurses := true, apart := false }
def FnExactCountPartitionsSaid : Prop := fnExactCountPartitionsRow.holds Try.pinned (OpenSpec.ofChange fnExactCountPartitionsSpec)

/-- ITS FALSE NEIGHBOUR: 'it returns false'. Refute it at one input. -/
def fnExactCountPartitionsWrong : ChangeSpec := { name := "fnExactCountPartitions", fn := fun _ => fun
  | [d1, d2] => { results := [.lit (.bool false)], args := [d1, d2] }
  | _ => none }
def FnExactCountPartitionsWrongFalsely : Prop := fnExactCountPartitionsRow.holds Try.pinned (OpenSpec.ofChange fnExactCountPartitionsWrong)

/-- 'laws.FnExactRenameGraph': WHATEVER THE INPUT: true; the input reads as it did. -/
def fnExactRenameGraphSpec : ChangeSpec := { name := "fnExactRenameGraph", fn := fun _ => fun
  | [d1, d2, d3] => { results := [.lit (.bool true)], args := [d1, d2, d3] }
  | _ => none }
def fnExactRenameGraphRow : OpenClaim := { program := "ytekknbcojfaohaa", sum := "1e5065f97a1ac45daad935dcfba749031d19a1b2c03d5319d2a5441fe2ec2ba0", func := "loop.example/g01041/laws.FnExactRenameGraph", spec := "fnExactRenameGraph", unfollowed := true, recurses := true, apart := false }
def FnExactRenameGraphSaid : Prop := fnExactRenameGraphRow.holds Try.pinned (OpenSpec.ofChange fnExactRenameGraphSpec)

/-- ITS FALSE NEIGHBOUR: 'it returns false'. Refute it at one input. -/
def fnExactRenameGraphWrong : ChangeSpec := { name := "fnExactRenameGraph", fn := fun _ => fun
  | [d1, d2, d3] => { results := [.lit (.bool false)], args := [d1, d2, d3] }
  | _ => none }
def FnExactRenameGraphWrongFalsely : Prop := fnExactRenameGraphRow.holds Try.pinned (OpenSpec.ofChange fnExactRenameGraphWrong)

/-- 'laws.FnExactTreeCodes': WHATEVER THE INPUT: true; the input reads as it did. -/
def fnExactTreeCodesSpec : ChangeSpec := { name := "fnExactTreeCodes", fn := fun _ => fun
  | [d] => { results := [.lit (.bool true)], args := [d] }
  | _ => none }
def fnExactTreeCodesRow : OpenClaim := { program := "ytekknbcojfaohaa", sum := "1e5065f97a1ac45daad935dcfba749031d19a1b2c03d5319d2a5441fe2ec2ba0", func := "loop.example/g01041/laws.FnExactTreeCodes", spec := "fnExactTreeCodes", inPlace := ["internal/abi.NoEscape", "internal/bytealg.MakeNoZero", "internal/bytealg.abigen_runtime_cmpstring"], unfollowed := true, recurses := true, apart := false }
def FnExactTreeCodesSaid : Prop := fnExactTreeCodesRow.holds Try.pinned (OpenSpec.ofChange fnExactTreeCodesSpec)

/-- ITS FALSE NEIGHBOUR: 'it returns false'. Refute it at one input. -/
def fnExactTreeCodesWrong : ChangeSpec := { name := "fnExactTreeCodes", fn := fun _ => fun
  | [d] => { results := [.lit (.bool false)], args := [d] }
  | _ => none }
def FnExactTreeCodesWrongFalsely : Prop := fnExactTreeCodesRow.holds Try.pinned (OpenSpec.ofChange fnExactTreeCodesWrong)

/-- 'laws.FnExactCanonGraph': WHATEVER THE INPUT: true; the input reads as it did. -/
def fnExactCanonGraphSpec : ChangeSpec := { name := "fnExactCanonGraph", fn := fun _ => fun
  | [d1, d2] => { results := [.lit (.bool true)], args := [d1, d2] }
  | _ => none }
def fnExactCanonGraphRow : OpenClaim := { program := "ytekknbcojfaohaa", sum := "1e5065f97a1ac45daad935dcfba749031d19a1b2c03d5319d2a5441fe2ec2ba0", func := "loop.example/g01041/laws.FnExactCanonGraph", spec := "fnExactCanonGraph", unfollowed := true, recurses := true, apart := false }
def FnExactCanonGraphSaid : Prop := fnExactCanonGraphRow.holds Try.pinned (OpenSpec.ofChange fnExactCanonGraphSpec)

/-- ITS FALSE NEIGHBOUR: 'it returns false'. Refute it at one input. -/
def fnExactCanonGraphWrong : ChangeSpec := { name := "fnExactCanonGraph", fn := fun _ => fun
  | [d1, d2] => { results := [.lit (.bool false)], args := [d1, d2] }
  | _ => none }
def FnExactCanonGraphWrongFalsely : Prop := fnExactCanonGraphRow.holds Try.pinned (OpenSpec.ofChange fnExactCanonGraphWrong)

/-- 'laws.FnExactSameGraph': WHATEVER THE INPUT: true; the input reads as it did. -/
def fnExactSameGraphSpec : ChangeSpec := { name := "fnExactSameGraph", fn := fun _ => fun
  | [d1, d2, d3] => { results := [.lit (.bool true)], args := [d1, d2, d3] }
  | _ => none }
def fnExactSameGraphRow : OpenClaim := { program := "ytekknbcojfaohaa", sum := "1e5065f97a1ac45daad935dcfba749031d19a1b2c03d5319d2a5441fe2ec2ba0", func := "loop.example/g01041/laws.FnExactSameGraph", spec := "fnExactSameGraph", unfollowed := true, recurses := true, apart := false }
def FnExactSameGraphSaid : Prop := fnExactSameGraphRow.holds Try.pinned (OpenSpec.ofChange fnExactSameGraphSpec)

/-- ITS FALSE NEIGHBOUR: 'it returns false'. Refute it at one input. -/
def fnExactSameGraphWrong : ChangeSpec := { name := "fnExactSameGraph", fn := fun _ => fun
  | [d1, d2, d3] => { results := [.lit (.bool false)], args := [d1, d2, d3] }
  | _ => none }
def FnExactSameGraphWrongFalsely : Prop := fnExactSameGraphRow.holds Try.pinned (OpenSpec.ofChange fnExactSameGraphWrong)

/-- 'laws.FnExactRenamingsOf': WHATEVER THE INPUT: true; the input reads as it did. -/
def fnExactRenamingsOfSpec : ChangeSpec := { name := "fnExactRenamingsOf", fn := fun _ => fun
  | [d1, d2] => { results := [.lit (.bool true)], args := [d1, d2] }
  | _ => none }
def fnExactRenamingsOfRow : OpenClaim := { program := "ytekknbcojfaohaa", sum := "1e5065f97a1ac45daad935dcfba749031d19a1b2c03d5319d2a5441fe2ec2ba0", func := "loop.example/g01041/laws.FnExactRenamingsOf", spec := "fnExactRenamingsOf", unfollowed := true, recurses := true, apart := false }
def FnExactRenamingsOfSaid : Prop := fnExactRenamingsOfRow.holds Try.pinned (OpenSpec.ofChange fnExactRenamingsOfSpec)

/-- ITS FALSE NEIGHBOUR: 'it returns false'. Refute it at one input. -/
def fnExactRenamingsOfWrong : ChangeSpec := { name := "fnExactRenamingsOf", fn := fun _ => fun
  | [d1, d2] => { results := [.lit (.bool false)], args := [d1, d2] }
  | _ => none }
def FnExactRenamingsOfWrongFalsely : Prop := fnExactRenamingsOfRow.holds Try.pinned (OpenSpec.ofChange fnExactRenamingsOfWrong)

/-- 'laws.FnExactIsSelfComplementary': WHATEVER THE INPUT: true; the input reads as it did. -/
def fnExactIsSelfComplementarySpec : ChangeSpec := { name := "fnExactIsSelfComplementary", fn := fun _ => fun
  | [d1, d2] => { results := [.lit (.bool true)], args := [d1, d2] }
  | _ => none }
def fnExactIsSelfComplementaryRow : OpenClaim := { program := "ytekknbcojfaohaa", sum := "1e5065f97a1ac45daad935dcfba749031d19a1b2c03d5319d2a5441fe2ec2ba0", func := "loop.example/g01041/laws.FnExactIsSelfComplementary", spec := "fnExactIsSelfComplementary", unfollowed := true, recurses := true, apart := false }
def FnExactIsSelfComplementarySaid : Prop := fnExactIsSelfComplementaryRow.holds Try.pinned (OpenSpec.ofChange fnExactIsSelfComplementarySpec)

/-- ITS FALSE NEIGHBOUR: 'it returns false'. Refute it at one input. -/
def fnExactIsSelfComplementaryWrong : ChangeSpec := { name := "fnExactIsSelfComplementary", fn := fun _ => fun
  | [d1, d2] => { results := [.lit (.bool false)], args := [d1, d2] }
  | _ => none }
def FnExactIsSelfComplementaryWrongFalsely : Prop := fnExactIsSelfComplementaryRow.holds Try.pinned (OpenSpec.ofChange fnExactIsSelfComplementaryWrong)

/-- 'laws.FnExactGraphList': WHATEVER THE INPUT: true; the input reads as it did. -/
def fnExactGraphListSpec : ChangeSpec := { name := "fnExactGraphList", fn := fun _ => fun
  | [d] => { results := [.lit (.bool true)], args := [d] }
  | _ => none }
def fnExactGraphListRow : OpenClaim := { program := "ytekknbcojfaohaa", sum := "1e5065f97a1ac45daad935dcfba749031d19a1b2c03d5319d2a5441fe2ec2ba0", func := "loop.example/g01041/laws.FnExactGraphList", spec := "fnExactGraphList", unfollowed := true, recurses := true, apart := false }
def FnExactGraphListSaid : Prop := fnExactGraphListRow.holds Try.pinned (OpenSpec.ofChange fnExactGraphListSpec)

/-- ITS FALSE NEIGHBOUR: 'it returns false'. Refute it at one input. -/
def fnExactGraphListWrong : ChangeSpec := { name := "fnExactGraphList", fn := fun _ => fun
  | [d] => { results := [.lit (.bool false)], args := [d] }
  | _ => none }
def FnExactGraphListWrongFalsely : Prop := fnExactGraphListRow.holds Try.pinned (OpenSpec.ofChange fnExactGraphListWrong)

/-- 'laws.FnExactCountGraphs': WHATEVER THE INPUT: true; the input reads as it did. -/
def fnExactCountGraphsSpec : ChangeSpec := { name := "fnExactCountGraphs", fn := fun _ => fun
  | [d] => { results := [.lit (.bool true)], args := [d] }
  | _ => none }
def fnExactCountGraphsRow : OpenClaim := { program := "ytekknbcojfaohaa", sum := "1e5065f97a1ac45daad935dcfba749031d19a1b2c03d5319d2a5441fe2ec2ba0", func := "loop.example/g01041/laws.FnExactCountGraphs", spec := "fnExactCountGraphs", unfollowed := true, recurses := true, apart := false }
def FnExactCountGraphsSaid : Prop := fnExactCountGraphsRow.holds Try.pinned (OpenSpec.ofChange fnExactCountGraphsSpec)

/-- ITS FALSE NEIGHBOUR: 'it returns false'. Refute it at one input. -/
def fnExactCountGraphsWrong : ChangeSpec := { name := "fnExactCountGraphs", fn := fun _ => fun
  | [d] => { results := [.lit (.bool false)], args := [d] }
  | _ => none }
def FnExactCountGraphsWrongFalsely : Prop := fnExactCountGraphsRow.holds Try.pinned (OpenSpec.ofChange fnExactCountGraphsWrong)

/- THE SECOND FORM. 'bulk': how many values and letters a reading holds, each counted each time it is reached (what is shared counts as often as it is met; a slice's spare places count too). A statement '..UptoSaid' is the law's where the arguments, and the package variables that the reading takes, are together of bulk at most 1048576: NARROWER than '..Said'. Prove '..Said' where nothing that the law and all that it calls make is longer than what came in: it says more and counts as full. Else prove '..UptoSaid'. A law counts once. -/
mutual
def uptoBulk {H : Type} : DataW H → Nat
  | .lit (.string bytes) => bytes.length + 1
  | .lit _ => 1
  | .nil => 1
  | .ptr d => uptoBulk d + 1
  | .slice elems spare => uptoBulkAll elems + uptoBulkAll spare + 1
  | .agg parts => uptoBulkAll parts + 1
  | .iface _ d => uptoBulk d + 1
  | .map entries => uptoBulkEntries entries + 1
  | .held _ => 1
def uptoBulkAll {H : Type} : List (DataW H) → Nat
  | [] => 0
  | d :: r => uptoBulk d + uptoBulkAll r
def uptoBulkEntries {H : Type} : List (Lit × DataW H) → Nat
  | [] => 0
  | x :: r => uptoBulkEntry x + uptoBulkEntries r
def uptoBulkEntry {H : Type} : Lit × DataW H → Nat
  | (.string bytes, d) => bytes.length + uptoBulk d + 1
  | (_, d) => uptoBulk d + 1
 end
def uptoSmall : (H : Type) → List (DataW H) → Bool := fun _ ds => decide (uptoBulkAll ds ≤ 1048576)
def OpenSpec.upto (s : _root_.Go.ChangeSpec) : _root_.Go.OpenSpec := { _root_.Go.OpenSpec.ofChange s with cond := some uptoSmall }

/-- 'laws.FnExactReadTree', WHERE WHAT IT READS IS OF BULK AT MOST 1048576: true; the input reads as it did. -/
def fnExactReadTreeUptoRow : OpenClaim := { program := "ytekknbcojfaohaa", sum := "1e5065f97a1ac45daad935dcfba749031d19a1b2c03d5319d2a5441fe2ec2ba0", func := "loop.example/g01041/laws.FnExactReadTree", spec := "fnExactReadTree", inPlace := ["internal/abi.NoEscape", "internal/bytealg.MakeNoZero"], recurses := true, apart := false, narrowed := true }
def FnExactReadTreeUptoSaid : Prop := fnExactReadTreeUptoRow.holds Try.pinned (OpenSpec.upto fnExactReadTreeSpec)

/-- 'laws.FnExactFormatGraph', WHERE WHAT IT READS IS OF BULK AT MOST 1048576: true; the input reads as it did. -/
def fnExactFormatGraphUptoRow : OpenClaim := { program := "ytekknbcojfaohaa", sum := "1e5065f97a1ac45daad935dcfba749031d19a1b2c03d5319d2a5441fe2ec2ba0", func := "loop.example/g01041/laws.FnExactFormatGraph", spec := "fnExactFormatGraph", inPlace := ["internal/abi.NoEscape", "internal/bytealg.MakeNoZero"], unfollowed := true, recurses := true, apart := false, narrowed := true }
def FnExactFormatGraphUptoSaid : Prop := fnExactFormatGraphUptoRow.holds Try.pinned (OpenSpec.upto fnExactFormatGraphSpec)

/-- 'laws.FnExactParseGraph', WHERE WHAT IT READS IS OF BULK AT MOST 1048576: true; the input reads as it did. -/
def fnExactParseGraphUptoRow : OpenClaim := { program := "ytekknbcojfaohaa", sum := "1e5065f97a1ac45daad935dcfba749031d19a1b2c03d5319d2a5441fe2ec2ba0", func := "loop.example/g01041/laws.FnExactParseGraph", spec := "fnExactParseGraph", inPlace := ["internal/abi.NoEscape", "internal/bytealg.MakeNoZero"], unfollowed := true, recurses := true, apart := false, narrowed := true }
def FnExactParseGraphUptoSaid : Prop := fnExactParseGraphUptoRow.holds Try.pinned (OpenSpec.upto fnExactParseGraphSpec)

/-- 'laws.FnExactCountPartitions', WHERE WHAT IT READS IS OF BULK AT MOST 1048576: true; the input reads as it did. -/
def fnExactCountPartitionsUptoRow : OpenClaim := { program := "ytekknbcojfaohaa", sum := "1e5065f97a1ac45daad935dcfba749031d19a1b2c03d5319d2a5441fe2ec2ba0", func := "loop.example/g01041/laws.FnExactCountPartitions", spec := "fnExactCountPartitions", unfollowed := true, recurses := true, apart := false, narrowed := true }
def FnExactCountPartitionsUptoSaid : Prop := fnExactCountPartitionsUptoRow.holds Try.pinned (OpenSpec.upto fnExactCountPartitionsSpec)

/-- 'laws.FnExactRenameGraph', WHERE WHAT IT READS IS OF BULK AT MOST 1048576: true; the input reads as it did. -/
def fnExactRenameGraphUptoRow : OpenClaim := { program := "ytekknbcojfaohaa", sum := "1e5065f97a1ac45daad935dcfba749031d19a1b2c03d5319d2a5441fe2ec2ba0", func := "loop.example/g01041/laws.FnExactRenameGraph", spec := "fnExactRenameGraph", unfollowed := true, recurses := true, apart := false, narrowed := true }
def FnExactRenameGraphUptoSaid : Prop := fnExactRenameGraphUptoRow.holds Try.pinned (OpenSpec.upto fnExactRenameGraphSpec)

/-- 'laws.FnExactTreeCodes', WHERE WHAT IT READS IS OF BULK AT MOST 1048576: true; the input reads as it did. -/
def fnExactTreeCodesUptoRow : OpenClaim := { program := "ytekknbcojfaohaa", sum := "1e5065f97a1ac45daad935dcfba749031d19a1b2c03d5319d2a5441fe2ec2ba0", func := "loop.example/g01041/laws.FnExactTreeCodes", spec := "fnExactTreeCodes", inPlace := ["internal/abi.NoEscape", "internal/bytealg.MakeNoZero", "internal/bytealg.abigen_runtime_cmpstring"], unfollowed := true, recurses := true, apart := false, narrowed := true }
def FnExactTreeCodesUptoSaid : Prop := fnExactTreeCodesUptoRow.holds Try.pinned (OpenSpec.upto fnExactTreeCodesSpec)

/-- 'laws.FnExactCanonGraph', WHERE WHAT IT READS IS OF BULK AT MOST 1048576: true; the input reads as it did. -/
def fnExactCanonGraphUptoRow : OpenClaim := { program := "ytekknbcojfaohaa", sum := "1e5065f97a1ac45daad935dcfba749031d19a1b2c03d5319d2a5441fe2ec2ba0", func := "loop.example/g01041/laws.FnExactCanonGraph", spec := "fnExactCanonGraph", unfollowed := true, recurses := true, apart := false, narrowed := true }
def FnExactCanonGraphUptoSaid : Prop := fnExactCanonGraphUptoRow.holds Try.pinned (OpenSpec.upto fnExactCanonGraphSpec)

/-- 'laws.FnExactSameGraph', WHERE WHAT IT READS IS OF BULK AT MOST 1048576: true; the input reads as it did. -/
def fnExactSameGraphUptoRow : OpenClaim := { program := "ytekknbcojfaohaa", sum := "1e5065f97a1ac45daad935dcfba749031d19a1b2c03d5319d2a5441fe2ec2ba0", func := "loop.example/g01041/laws.FnExactSameGraph", spec := "fnExactSameGraph", unfollowed := true, recurses := true, apart := false, narrowed := true }
def FnExactSameGraphUptoSaid : Prop := fnExactSameGraphUptoRow.holds Try.pinned (OpenSpec.upto fnExactSameGraphSpec)

/-- 'laws.FnExactRenamingsOf', WHERE WHAT IT READS IS OF BULK AT MOST 1048576: true; the input reads as it did. -/
def fnExactRenamingsOfUptoRow : OpenClaim := { program := "ytekknbcojfaohaa", sum := "1e5065f97a1ac45daad935dcfba749031d19a1b2c03d5319d2a5441fe2ec2ba0", func := "loop.example/g01041/laws.FnExactRenamingsOf", spec := "fnExactRenamingsOf", unfollowed := true, recurses := true, apart := false, narrowed := true }
def FnExactRenamingsOfUptoSaid : Prop := fnExactRenamingsOfUptoRow.holds Try.pinned (OpenSpec.upto fnExactRenamingsOfSpec)

/-- 'laws.FnExactIsSelfComplementary', WHERE WHAT IT READS IS OF BULK AT MOST 1048576: true; the input reads as it did. -/
def fnExactIsSelfComplementaryUptoRow : OpenClaim := { program := "ytekknbcojfaohaa", sum := "1e5065f97a1ac45daad935dcfba749031d19a1b2c03d5319d2a5441fe2ec2ba0", func := "loop.example/g01041/laws.FnExactIsSelfComplementary", spec := "fnExactIsSelfComplementary", unfollowed := true, recurses := true, apart := false, narrowed := true }
def FnExactIsSelfComplementaryUptoSaid : Prop := fnExactIsSelfComplementaryUptoRow.holds Try.pinned (OpenSpec.upto fnExactIsSelfComplementarySpec)

/-- 'laws.FnExactGraphList', WHERE WHAT IT READS IS OF BULK AT MOST 1048576: true; the input reads as it did. -/
def fnExactGraphListUptoRow : OpenClaim := { program := "ytekknbcojfaohaa", sum := "1e5065f97a1ac45daad935dcfba749031d19a1b2c03d5319d2a5441fe2ec2ba0", func := "loop.example/g01041/laws.FnExactGraphList", spec := "fnExactGraphList", unfollowed := true, recurses := true, apart := false, narrowed := true }
def FnExactGraphListUptoSaid : Prop := fnExactGraphListUptoRow.holds Try.pinned (OpenSpec.upto fnExactGraphListSpec)

/-- 'laws.FnExactCountGraphs', WHERE WHAT IT READS IS OF BULK AT MOST 1048576: true; the input reads as it did. -/
def fnExactCountGraphsUptoRow : OpenClaim := { program := "ytekknbcojfaohaa", sum := "1e5065f97a1ac45daad935dcfba749031d19a1b2c03d5319d2a5441fe2ec2ba0", func := "loop.example/g01041/laws.FnExactCountGraphs", spec := "fnExactCountGraphs", unfollowed := true, recurses := true, apart := false, narrowed := true }
def FnExactCountGraphsUptoSaid : Prop := fnExactCountGraphsUptoRow.holds Try.pinned (OpenSpec.upto fnExactCountGraphsSpec)

end Rows
end Go.Proofs.Ytekknbcojfaohaa
