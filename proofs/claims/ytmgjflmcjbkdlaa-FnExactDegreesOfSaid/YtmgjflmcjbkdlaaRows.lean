/-
  No cell of these rows narrows 'for every input' (looked for: loops, veiled, ifaces, maps, wideKeys, modest, calm, conditions, laid).
  DERIVED. THE GIVEN ROWS OF THIS SEAT. 12 by the template 'for every input the law returns true; each argument reads behind the call as it read before'; 0 by the template 'total and deterministic' (their statements: YtmgjflmcjbkdlaaTotals.lean).
  GIVEN WITH THE SEED: the statements are not yours to turn. If you find one false, say at which input.
  Laid BY PROGRAM, IN A SANDBOX (cutbox-rows.mjs): the forced cells as the released guide's own fill.sh prints them over the translation ee34a515e17f033d… (all of the seat's roots in one cut). By AI agents, Wed Nov 11 2026. No macro, syntax, notation, axiom, sorry.
-/
import Derived.Test.YtmgjflmcjbkdlaaChecked
import GoSem.Claim
import GoSem.ClaimJoined
import GoSem.ClaimMapViews
import Derived.JoinedTies
import Derived.KernelRfl
namespace Go.Proofs.Ytmgjflmcjbkdlaa
/- THE CELL 'sum', in the pinned program and in every row, IS THE sha256 OF THE DUMP (.gsa) THAT YtmgjflmcjbkdlaaProg.lean LOADS. Nothing in Lean hashes anything: it is a label: what it is worth is what the hold of that sum in a sandbox is worth. -/
noncomputable def Try.pinned : Pinned := { name := "ytmgjflmcjbkdlaa", sum := "ee34a515e17f033d2c06ec21653e19d9da3ac2545d2f4af5fa962296d189d622", checked := Try.checked }
namespace Rows
def none {H : Type} : Left H := { results := [], args := [] }

/-- 'laws.FnFree': WHATEVER THE INPUT: true; the input reads as it did. -/
def fnFreeSpec : ChangeSpec := { name := "fnFree", fn := fun _ => fun
  | [d] => { results := [.lit (.bool true)], args := [d] }
  | _ => none }
def fnFreeRow : OpenClaim := { program := "ytmgjflmcjbkdlaa", sum := "ee34a515e17f033d2c06ec21653e19d9da3ac2545d2f4af5fa962296d189d622", func := "loop.example/g01041/laws.FnFree", spec := "fnFree", apart := false }
def FnFreeSaid : Prop := fnFreeRow.holds Try.pinned (OpenSpec.ofChange fnFreeSpec)

/-- ITS FALSE NEIGHBOUR: 'it returns false'. Refute it at one input. -/
def fnFreeWrong : ChangeSpec := { name := "fnFree", fn := fun _ => fun
  | [d] => { results := [.lit (.bool false)], args := [d] }
  | _ => none }
def FnFreeWrongFalsely : Prop := fnFreeRow.holds Try.pinned (OpenSpec.ofChange fnFreeWrong)

/-- 'laws.FnExactFormatWord': WHATEVER THE INPUT: true; the input reads as it did. -/
def fnExactFormatWordSpec : ChangeSpec := { name := "fnExactFormatWord", fn := fun _ => fun
  | [d] => { results := [.lit (.bool true)], args := [d] }
  | _ => none }
def fnExactFormatWordRow : OpenClaim := { program := "ytmgjflmcjbkdlaa", sum := "ee34a515e17f033d2c06ec21653e19d9da3ac2545d2f4af5fa962296d189d622", func := "loop.example/g01041/laws.FnExactFormatWord", spec := "fnExactFormatWord", inPlace := ["internal/abi.NoEscape", "internal/bytealg.MakeNoZero"], recurses := true, apart := false }
def FnExactFormatWordSaid : Prop := fnExactFormatWordRow.holds Try.pinned (OpenSpec.ofChange fnExactFormatWordSpec)

/-- ITS FALSE NEIGHBOUR: 'it returns false'. Refute it at one input. -/
def fnExactFormatWordWrong : ChangeSpec := { name := "fnExactFormatWord", fn := fun _ => fun
  | [d] => { results := [.lit (.bool false)], args := [d] }
  | _ => none }
def FnExactFormatWordWrongFalsely : Prop := fnExactFormatWordRow.holds Try.pinned (OpenSpec.ofChange fnExactFormatWordWrong)

/-- 'laws.FnExactFormatWords': WHATEVER THE INPUT: true; the input reads as it did. -/
def fnExactFormatWordsSpec : ChangeSpec := { name := "fnExactFormatWords", fn := fun _ => fun
  | [d] => { results := [.lit (.bool true)], args := [d] }
  | _ => none }
def fnExactFormatWordsRow : OpenClaim := { program := "ytmgjflmcjbkdlaa", sum := "ee34a515e17f033d2c06ec21653e19d9da3ac2545d2f4af5fa962296d189d622", func := "loop.example/g01041/laws.FnExactFormatWords", spec := "fnExactFormatWords", inPlace := ["internal/abi.NoEscape", "internal/bytealg.MakeNoZero"], recurses := true, apart := false }
def FnExactFormatWordsSaid : Prop := fnExactFormatWordsRow.holds Try.pinned (OpenSpec.ofChange fnExactFormatWordsSpec)

/-- ITS FALSE NEIGHBOUR: 'it returns false'. Refute it at one input. -/
def fnExactFormatWordsWrong : ChangeSpec := { name := "fnExactFormatWords", fn := fun _ => fun
  | [d] => { results := [.lit (.bool false)], args := [d] }
  | _ => none }
def FnExactFormatWordsWrongFalsely : Prop := fnExactFormatWordsRow.holds Try.pinned (OpenSpec.ofChange fnExactFormatWordsWrong)

/-- 'laws.FnExactFormatCycles': WHATEVER THE INPUT: true; the input reads as it did. -/
def fnExactFormatCyclesSpec : ChangeSpec := { name := "fnExactFormatCycles", fn := fun _ => fun
  | [d] => { results := [.lit (.bool true)], args := [d] }
  | _ => none }
def fnExactFormatCyclesRow : OpenClaim := { program := "ytmgjflmcjbkdlaa", sum := "ee34a515e17f033d2c06ec21653e19d9da3ac2545d2f4af5fa962296d189d622", func := "loop.example/g01041/laws.FnExactFormatCycles", spec := "fnExactFormatCycles", inPlace := ["internal/abi.NoEscape", "internal/bytealg.MakeNoZero"], recurses := true, apart := false }
def FnExactFormatCyclesSaid : Prop := fnExactFormatCyclesRow.holds Try.pinned (OpenSpec.ofChange fnExactFormatCyclesSpec)

/-- ITS FALSE NEIGHBOUR: 'it returns false'. Refute it at one input. -/
def fnExactFormatCyclesWrong : ChangeSpec := { name := "fnExactFormatCycles", fn := fun _ => fun
  | [d] => { results := [.lit (.bool false)], args := [d] }
  | _ => none }
def FnExactFormatCyclesWrongFalsely : Prop := fnExactFormatCyclesRow.holds Try.pinned (OpenSpec.ofChange fnExactFormatCyclesWrong)

/-- 'laws.FnExactWordLine': WHATEVER THE INPUT: true; the input reads as it did. -/
def fnExactWordLineSpec : ChangeSpec := { name := "fnExactWordLine", fn := fun _ => fun
  | [d] => { results := [.lit (.bool true)], args := [d] }
  | _ => none }
def fnExactWordLineRow : OpenClaim := { program := "ytmgjflmcjbkdlaa", sum := "ee34a515e17f033d2c06ec21653e19d9da3ac2545d2f4af5fa962296d189d622", func := "loop.example/g01041/laws.FnExactWordLine", spec := "fnExactWordLine", inPlace := ["internal/abi.NoEscape", "internal/bytealg.MakeNoZero"], recurses := true, apart := false }
def FnExactWordLineSaid : Prop := fnExactWordLineRow.holds Try.pinned (OpenSpec.ofChange fnExactWordLineSpec)

/-- ITS FALSE NEIGHBOUR: 'it returns false'. Refute it at one input. -/
def fnExactWordLineWrong : ChangeSpec := { name := "fnExactWordLine", fn := fun _ => fun
  | [d] => { results := [.lit (.bool false)], args := [d] }
  | _ => none }
def FnExactWordLineWrongFalsely : Prop := fnExactWordLineRow.holds Try.pinned (OpenSpec.ofChange fnExactWordLineWrong)

/-- 'laws.FnExactHasEdge': WHATEVER THE INPUT: true; the input reads as it did. -/
def fnExactHasEdgeSpec : ChangeSpec := { name := "fnExactHasEdge", fn := fun _ => fun
  | [d1, d2, d3, d4] => { results := [.lit (.bool true)], args := [d1, d2, d3, d4] }
  | _ => none }
def fnExactHasEdgeRow : OpenClaim := { program := "ytmgjflmcjbkdlaa", sum := "ee34a515e17f033d2c06ec21653e19d9da3ac2545d2f4af5fa962296d189d622", func := "loop.example/g01041/laws.FnExactHasEdge", spec := "fnExactHasEdge", unfollowed := true, recurses := true, apart := false }
def FnExactHasEdgeSaid : Prop := fnExactHasEdgeRow.holds Try.pinned (OpenSpec.ofChange fnExactHasEdgeSpec)

/-- ITS FALSE NEIGHBOUR: 'it returns false'. Refute it at one input. -/
def fnExactHasEdgeWrong : ChangeSpec := { name := "fnExactHasEdge", fn := fun _ => fun
  | [d1, d2, d3, d4] => { results := [.lit (.bool false)], args := [d1, d2, d3, d4] }
  | _ => none }
def FnExactHasEdgeWrongFalsely : Prop := fnExactHasEdgeRow.holds Try.pinned (OpenSpec.ofChange fnExactHasEdgeWrong)

/-- 'laws.FnExactCanonExchange': WHATEVER THE INPUT: true; the input reads as it did. -/
def fnExactCanonExchangeSpec : ChangeSpec := { name := "fnExactCanonExchange", fn := fun _ => fun
  | [d1, d2, d3] => { results := [.lit (.bool true)], args := [d1, d2, d3] }
  | _ => none }
def fnExactCanonExchangeRow : OpenClaim := { program := "ytmgjflmcjbkdlaa", sum := "ee34a515e17f033d2c06ec21653e19d9da3ac2545d2f4af5fa962296d189d622", func := "loop.example/g01041/laws.FnExactCanonExchange", spec := "fnExactCanonExchange", unfollowed := true, recurses := true, apart := false }
def FnExactCanonExchangeSaid : Prop := fnExactCanonExchangeRow.holds Try.pinned (OpenSpec.ofChange fnExactCanonExchangeSpec)

/-- ITS FALSE NEIGHBOUR: 'it returns false'. Refute it at one input. -/
def fnExactCanonExchangeWrong : ChangeSpec := { name := "fnExactCanonExchange", fn := fun _ => fun
  | [d1, d2, d3] => { results := [.lit (.bool false)], args := [d1, d2, d3] }
  | _ => none }
def FnExactCanonExchangeWrongFalsely : Prop := fnExactCanonExchangeRow.holds Try.pinned (OpenSpec.ofChange fnExactCanonExchangeWrong)

/-- 'laws.FnExactDegreesOf': WHATEVER THE INPUT: true; the input reads as it did. -/
def fnExactDegreesOfSpec : ChangeSpec := { name := "fnExactDegreesOf", fn := fun _ => fun
  | [d1, d2] => { results := [.lit (.bool true)], args := [d1, d2] }
  | _ => none }
def fnExactDegreesOfRow : OpenClaim := { program := "ytmgjflmcjbkdlaa", sum := "ee34a515e17f033d2c06ec21653e19d9da3ac2545d2f4af5fa962296d189d622", func := "loop.example/g01041/laws.FnExactDegreesOf", spec := "fnExactDegreesOf", unfollowed := true, recurses := true, apart := false }
def FnExactDegreesOfSaid : Prop := fnExactDegreesOfRow.holds Try.pinned (OpenSpec.ofChange fnExactDegreesOfSpec)

/-- ITS FALSE NEIGHBOUR: 'it returns false'. Refute it at one input. -/
def fnExactDegreesOfWrong : ChangeSpec := { name := "fnExactDegreesOf", fn := fun _ => fun
  | [d1, d2] => { results := [.lit (.bool false)], args := [d1, d2] }
  | _ => none }
def FnExactDegreesOfWrongFalsely : Prop := fnExactDegreesOfRow.holds Try.pinned (OpenSpec.ofChange fnExactDegreesOfWrong)

/-- 'laws.FnExactExchangePatterns': WHATEVER THE INPUT: true; the input reads as it did. -/
def fnExactExchangePatternsSpec : ChangeSpec := { name := "fnExactExchangePatterns", fn := fun _ => fun
  | [d1, d2] => { results := [.lit (.bool true)], args := [d1, d2] }
  | _ => none }
def fnExactExchangePatternsRow : OpenClaim := { program := "ytmgjflmcjbkdlaa", sum := "ee34a515e17f033d2c06ec21653e19d9da3ac2545d2f4af5fa962296d189d622", func := "loop.example/g01041/laws.FnExactExchangePatterns", spec := "fnExactExchangePatterns", unfollowed := true, recurses := true, apart := false }
def FnExactExchangePatternsSaid : Prop := fnExactExchangePatternsRow.holds Try.pinned (OpenSpec.ofChange fnExactExchangePatternsSpec)

/-- ITS FALSE NEIGHBOUR: 'it returns false'. Refute it at one input. -/
def fnExactExchangePatternsWrong : ChangeSpec := { name := "fnExactExchangePatterns", fn := fun _ => fun
  | [d1, d2] => { results := [.lit (.bool false)], args := [d1, d2] }
  | _ => none }
def FnExactExchangePatternsWrongFalsely : Prop := fnExactExchangePatternsRow.holds Try.pinned (OpenSpec.ofChange fnExactExchangePatternsWrong)

/-- 'laws.FnExactTreeCode': WHATEVER THE INPUT: true; the input reads as it did. -/
def fnExactTreeCodeSpec : ChangeSpec := { name := "fnExactTreeCode", fn := fun _ => fun
  | [d] => { results := [.lit (.bool true)], args := [d] }
  | _ => none }
def fnExactTreeCodeRow : OpenClaim := { program := "ytmgjflmcjbkdlaa", sum := "ee34a515e17f033d2c06ec21653e19d9da3ac2545d2f4af5fa962296d189d622", func := "loop.example/g01041/laws.FnExactTreeCode", spec := "fnExactTreeCode", inPlace := ["internal/abi.NoEscape", "internal/bytealg.MakeNoZero"], recurses := true, apart := false }
def FnExactTreeCodeSaid : Prop := fnExactTreeCodeRow.holds Try.pinned (OpenSpec.ofChange fnExactTreeCodeSpec)

/-- ITS FALSE NEIGHBOUR: 'it returns false'. Refute it at one input. -/
def fnExactTreeCodeWrong : ChangeSpec := { name := "fnExactTreeCode", fn := fun _ => fun
  | [d] => { results := [.lit (.bool false)], args := [d] }
  | _ => none }
def FnExactTreeCodeWrongFalsely : Prop := fnExactTreeCodeRow.holds Try.pinned (OpenSpec.ofChange fnExactTreeCodeWrong)

/-- 'laws.FnExactSameTree': WHATEVER THE INPUT: true; the input reads as it did. -/
def fnExactSameTreeSpec : ChangeSpec := { name := "fnExactSameTree", fn := fun _ => fun
  | [d1, d2] => { results := [.lit (.bool true)], args := [d1, d2] }
  | _ => none }
def fnExactSameTreeRow : OpenClaim := { program := "ytmgjflmcjbkdlaa", sum := "ee34a515e17f033d2c06ec21653e19d9da3ac2545d2f4af5fa962296d189d622", func := "loop.example/g01041/laws.FnExactSameTree", spec := "fnExactSameTree", inPlace := ["internal/abi.NoEscape", "internal/bytealg.MakeNoZero"], recurses := true, apart := false }
def FnExactSameTreeSaid : Prop := fnExactSameTreeRow.holds Try.pinned (OpenSpec.ofChange fnExactSameTreeSpec)

/-- ITS FALSE NEIGHBOUR: 'it returns false'. Refute it at one input. -/
def fnExactSameTreeWrong : ChangeSpec := { name := "fnExactSameTree", fn := fun _ => fun
  | [d1, d2] => { results := [.lit (.bool false)], args := [d1, d2] }
  | _ => none }
def FnExactSameTreeWrongFalsely : Prop := fnExactSameTreeRow.holds Try.pinned (OpenSpec.ofChange fnExactSameTreeWrong)

/-- 'laws.FnExactTreeRenamings': WHATEVER THE INPUT: true; the input reads as it did. -/
def fnExactTreeRenamingsSpec : ChangeSpec := { name := "fnExactTreeRenamings", fn := fun _ => fun
  | [d] => { results := [.lit (.bool true)], args := [d] }
  | _ => none }
def fnExactTreeRenamingsRow : OpenClaim := { program := "ytmgjflmcjbkdlaa", sum := "ee34a515e17f033d2c06ec21653e19d9da3ac2545d2f4af5fa962296d189d622", func := "loop.example/g01041/laws.FnExactTreeRenamings", spec := "fnExactTreeRenamings", inPlace := ["internal/abi.NoEscape", "internal/bytealg.MakeNoZero"], recurses := true, apart := false }
def FnExactTreeRenamingsSaid : Prop := fnExactTreeRenamingsRow.holds Try.pinned (OpenSpec.ofChange fnExactTreeRenamingsSpec)

/-- ITS FALSE NEIGHBOUR: 'it returns false'. Refute it at one input. -/
def fnExactTreeRenamingsWrong : ChangeSpec := { name := "fnExactTreeRenamings", fn := fun _ => fun
  | [d] => { results := [.lit (.bool false)], args := [d] }
  | _ => none }
def FnExactTreeRenamingsWrongFalsely : Prop := fnExactTreeRenamingsRow.holds Try.pinned (OpenSpec.ofChange fnExactTreeRenamingsWrong)

/- THE SECOND FORM. 'bulk': how many values and letters a reading holds, each counted each time it is reached (what is shared counts as often as it is met; a slice's spare places count too). A statement '..UptoSaid' is the law's where the arguments, and the package variables that the reading takes, are together of bulk at most 1048576: NARROWER than '..Said'. Prove '..Said' where nothing that the law and all that it calls make is longer than what came in: it says more and counts as full. Else prove '..UptoSaid'. A law counts once. -/
mutual
def uptoBulk {H : Type} : DataW H → Nat
  | .lit (.string bytes) => bytes.length + 1
  | .lit _ => 1
  | .nil => 1
  | .ptr d => uptoBulk d + 1
  | .slice elems spare => uptoBulkAll elems + uptoBulkAll spare + 1
  | .agg parts => uptoBulkAll parts + 1
  | .iface _ d => uptoBulk d + 1
  | .map entries => uptoBulkEntries entries + 1
  | .held _ => 1
def uptoBulkAll {H : Type} : List (DataW H) → Nat
  | [] => 0
  | d :: r => uptoBulk d + uptoBulkAll r
def uptoBulkEntries {H : Type} : List (Lit × DataW H) → Nat
  | [] => 0
  | x :: r => uptoBulkEntry x + uptoBulkEntries r
def uptoBulkEntry {H : Type} : Lit × DataW H → Nat
  | (.string bytes, d) => bytes.length + uptoBulk d + 1
  | (_, d) => uptoBulk d + 1
 end
def uptoSmall : (H : Type) → List (DataW H) → Bool := fun _ ds => decide (uptoBulkAll ds ≤ 1048576)
def OpenSpec.upto (s : _root_.Go.ChangeSpec) : _root_.Go.OpenSpec := { _root_.Go.OpenSpec.ofChange s with cond := some uptoSmall }

/-- 'laws.FnFree', WHERE WHAT IT READS IS OF BULK AT MOST 1048576: true; the input reads as it did. -/
def fnFreeUptoRow : OpenClaim := { program := "ytmgjflmcjbkdlaa", sum := "ee34a515e17f033d2c06ec21653e19d9da3ac2545d2f4af5fa962296d189d622", func := "loop.example/g01041/laws.FnFree", spec := "fnFree", apart := false, narrowed := true }
def FnFreeUptoSaid : Prop := fnFreeUptoRow.holds Try.pinned (OpenSpec.upto fnFreeSpec)

/-- 'laws.FnExactFormatWord', WHERE WHAT IT READS IS OF BULK AT MOST 1048576: true; the input reads as it did. -/
def fnExactFormatWordUptoRow : OpenClaim := { program := "ytmgjflmcjbkdlaa", sum := "ee34a515e17f033d2c06ec21653e19d9da3ac2545d2f4af5fa962296d189d622", func := "loop.example/g01041/laws.FnExactFormatWord", spec := "fnExactFormatWord", inPlace := ["internal/abi.NoEscape", "internal/bytealg.MakeNoZero"], recurses := true, apart := false, narrowed := true }
def FnExactFormatWordUptoSaid : Prop := fnExactFormatWordUptoRow.holds Try.pinned (OpenSpec.upto fnExactFormatWordSpec)

/-- 'laws.FnExactFormatWords', WHERE WHAT IT READS IS OF BULK AT MOST 1048576: true; the input reads as it did. -/
def fnExactFormatWordsUptoRow : OpenClaim := { program := "ytmgjflmcjbkdlaa", sum := "ee34a515e17f033d2c06ec21653e19d9da3ac2545d2f4af5fa962296d189d622", func := "loop.example/g01041/laws.FnExactFormatWords", spec := "fnExactFormatWords", inPlace := ["internal/abi.NoEscape", "internal/bytealg.MakeNoZero"], recurses := true, apart := false, narrowed := true }
def FnExactFormatWordsUptoSaid : Prop := fnExactFormatWordsUptoRow.holds Try.pinned (OpenSpec.upto fnExactFormatWordsSpec)

/-- 'laws.FnExactFormatCycles', WHERE WHAT IT READS IS OF BULK AT MOST 1048576: true; the input reads as it did. -/
def fnExactFormatCyclesUptoRow : OpenClaim := { program := "ytmgjflmcjbkdlaa", sum := "ee34a515e17f033d2c06ec21653e19d9da3ac2545d2f4af5fa962296d189d622", func := "loop.example/g01041/laws.FnExactFormatCycles", spec := "fnExactFormatCycles", inPlace := ["internal/abi.NoEscape", "internal/bytealg.MakeNoZero"], recurses := true, apart := false, narrowed := true }
def FnExactFormatCyclesUptoSaid : Prop := fnExactFormatCyclesUptoRow.holds Try.pinned (OpenSpec.upto fnExactFormatCyclesSpec)

/-- 'laws.FnExactWordLine', WHERE WHAT IT READS IS OF BULK AT MOST 1048576: true; the input reads as it did. -/
def fnExactWordLineUptoRow : OpenClaim := { program := "ytmgjflmcjbkdlaa", sum := "ee34a515e17f033d2c06ec21653e19d9da3ac2545d2f4af5fa962296d189d622", func := "loop.example/g01041/laws.FnExactWordLine", spec := "fnExactWordLine", inPlace := ["internal/abi.NoEscape", "internal/bytealg.MakeNoZero"], recurses := true, apart := false, narrowed := true }
def FnExactWordLineUptoSaid : Prop := fnExactWordLineUptoRow.holds Try.pinned (OpenSpec.upto fnExactWordLineSpec)

/-- 'laws.FnExactHasEdge', WHERE WHAT IT READS IS OF BULK AT MOST 1048576: true; the input reads as it did. -/
def fnExactHasEdgeUptoRow : OpenClaim := { program := "ytmgjflmcjbkdlaa", sum := "ee34a515e17f033d2c06ec21653e19d9da3ac2545d2f4af5fa962296d189d622", func := "loop.example/g01041/laws.FnExactHasEdge", spec := "fnExactHasEdge", unfollowed := true, recurses := true, apart := false, narrowed := true }
def FnExactHasEdgeUptoSaid : Prop := fnExactHasEdgeUptoRow.holds Try.pinned (OpenSpec.upto fnExactHasEdgeSpec)

/-- 'laws.FnExactCanonExchange', WHERE WHAT IT READS IS OF BULK AT MOST 1048576: true; the input reads as it did. -/
def fnExactCanonExchangeUptoRow : OpenClaim := { program := "ytmgjflmcjbkdlaa", sum := "ee34a515e17f033d2c06ec21653e19d9da3ac2545d2f4af5fa962296d189d622", func := "loop.example/g01041/laws.FnExactCanonExchange", spec := "fnExactCanonExchange", unfollowed := true, recurses := true, apart := false, narrowed := true }
def FnExactCanonExchangeUptoSaid : Prop := fnExactCanonExchangeUptoRow.holds Try.pinned (OpenSpec.upto fnExactCanonExchangeSpec)

/-- 'laws.FnExactDegreesOf', WHERE WHAT IT READS IS OF BULK AT MOST 1048576: true; the input reads as it did. -/
def fnExactDegreesOfUptoRow : OpenClaim := { program := "ytmgjflmcjbkdlaa", sum := "ee34a515e17f033d2c06ec21653e19d9da3ac2545d2f4af5fa962296d189d622", func := "loop.example/g01041/laws.FnExactDegreesOf", spec := "fnExactDegreesOf", unfollowed := true, recurses := true, apart := false, narrowed := true }
def FnExactDegreesOfUptoSaid : Prop := fnExactDegreesOfUptoRow.holds Try.pinned (OpenSpec.upto fnExactDegreesOfSpec)

/-- 'laws.FnExactExchangePatterns', WHERE WHAT IT READS IS OF BULK AT MOST 1048576: true; the input reads as it did. -/
def fnExactExchangePatternsUptoRow : OpenClaim := { program := "ytmgjflmcjbkdlaa", sum := "ee34a515e17f033d2c06ec21653e19d9da3ac2545d2f4af5fa962296d189d622", func := "loop.example/g01041/laws.FnExactExchangePatterns", spec := "fnExactExchangePatterns", unfollowed := true, recurses := true, apart := false, narrowed := true }
def FnExactExchangePatternsUptoSaid : Prop := fnExactExchangePatternsUptoRow.holds Try.pinned (OpenSpec.upto fnExactExchangePatternsSpec)

/-- 'laws.FnExactTreeCode', WHERE WHAT IT READS IS OF BULK AT MOST 1048576: true; the input reads as it did. -/
def fnExactTreeCodeUptoRow : OpenClaim := { program := "ytmgjflmcjbkdlaa", sum := "ee34a515e17f033d2c06ec21653e19d9da3ac2545d2f4af5fa962296d189d622", func := "loop.example/g01041/laws.FnExactTreeCode", spec := "fnExactTreeCode", inPlace := ["internal/abi.NoEscape", "internal/bytealg.MakeNoZero"], recurses := true, apart := false, narrowed := true }
def FnExactTreeCodeUptoSaid : Prop := fnExactTreeCodeUptoRow.holds Try.pinned (OpenSpec.upto fnExactTreeCodeSpec)

/-- 'laws.FnExactSameTree', WHERE WHAT IT READS IS OF BULK AT MOST 1048576: true; the input reads as it did. -/
def fnExactSameTreeUptoRow : OpenClaim := { program := "ytmgjflmcjbkdlaa", sum := "ee34a515e17f033d2c06ec21653e19d9da3ac2545d2f4af5fa962296d189d622", func := "loop.example/g01041/laws.FnExactSameTree", spec := "fnExactSameTree", inPlace := ["internal/abi.NoEscape", "internal/bytealg.MakeNoZero"], recurses := true, apart := false, narrowed := true }
def FnExactSameTreeUptoSaid : Prop := fnExactSameTreeUptoRow.holds Try.pinned (OpenSpec.upto fnExactSameTreeSpec)

/-- 'laws.FnExactTreeRenamings', WHERE WHAT IT READS IS OF BULK AT MOST 1048576: true; the input reads as it did. -/
def fnExactTreeRenamingsUptoRow : OpenClaim := { program := "ytmgjflmcjbkdlaa", sum := "ee34a515e17f033d2c06ec21653e19d9da3ac2545d2f4af5fa962296d189d622", func := "loop.example/g01041/laws.FnExactTreeRenamings", spec := "fnExactTreeRenamings", inPlace := ["internal/abi.NoEscape", "internal/bytealg.MakeNoZero"], recurses := true, apart := false, narrowed := true }
def FnExactTreeRenamingsUptoSaid : Prop := fnExactTreeRenamingsUptoRow.holds Try.pinned (OpenSpec.upto fnExactTreeRenamingsSpec)

end Rows
end Go.Proofs.Ytmgjflmcjbkdlaa
